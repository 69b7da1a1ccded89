/- The walk of flow.inside: a side's nodes. -/
import Derived.Test.YtanhhdfffggdmaaX2
namespace Go.Proofs.Ytanhhdfffggdmaa
open Go.RowKit FM

theorem info4 : (Try.prog.info? 4).map (fun i => (i.zero, i.size, i.bytes)) = some (some (.bool false), 1, 1) := by kernel_rfl
/-- The element at a place is a node, and greater than the one before. -/
def okAt (n : Int) (l : List Int) (k : Nat) : Prop := 0 ≤ l.getD k 0 ∧ l.getD k 0 < n ∧ (0 < k → l.getD (k - 1) 0 < l.getD k 0)
def asc (n : Int) (l : List Int) : Prop := ∀ k, k < l.length → okAt n l k
def sideOk (n s t : Int) (l : List Int) : Prop := asc n l ∧ s ∈ l ∧ t ∉ l
def memB (l : List Int) (v : Int) : Bool := decide (v ∈ l)
theorem memB_take_succ (l : List Int) (k : Nat) (hk : k < l.length) (v : Int) : memB (l.take (k + 1)) v = (memB (l.take k) v || (v == l.getD k 0)) := by
  have e : l.take (k + 1) = l.take k ++ [l.getD k 0] := by
    rw [List.take_add_one, List.getElem?_eq_getElem hk, List.getD_eq_getElem?_getD, List.getElem?_eq_getElem hk]
    rfl
  unfold memB
  rw [e, Bool.eq_iff_iff]
  simp only [List.mem_append, List.mem_singleton, Bool.or_eq_true, decide_eq_true_eq, beq_iff_eq]
def InsideSaid (w : World) (n : Nat) (s t : Int) (l : List Int) (e : Ending) (w' : World) : Prop :=
  ∃ vs b, e = .returned (.tuple #[vs, .bool b]) ∧ Below w.heap.size w w' ∧ (b = true ↔ sideOk n s t l) ∧ (b = true → ∃ g, vs = .slice (some ⟨g, 0, none⟩) n n ∧ w.heap.size ≤ g ∧ g < w'.heap.size ∧ Arr w' g n (fun j => .bool (memB l j)))

set_option maxHeartbeats 1000000 in
theorem inside_any (n s t : Nat) (hs : s < n) (ht : t < n) (hn : n ≤ 256) (S : Option Addr) (sc : Nat) (l : List Int) (w : World) (hS : IntsAt w w.heap.size S l) (hlen : l.length ≤ 9223372036854775807) :
    Calls Try.prog 26 #[.int .i64 n, .int .i64 s, .int .i64 t, .slice S l.length sc] w (InsideSaid w n s t l) := by
  obtain ⟨i0, hi, hz0, hz1, hz2⟩ := info_parts info4
  have hmk := fun wx => run_make1 (P := Try.prog) 52 4 i0 (.bool false) Try.underlying52 hi hz0 hz1 rfl n n (Nat.le_refl _) (by rw [hz2]; omega) (by omega) wx
  have hb0 := (Below.refl w.heap.size w).alloc (Nat.le_refl _) (.cells (zeros (.bool false) n) 4)
  go_enter Try.func26, Try.ntmps26
  go_wp2_with fail
  clear hmk
  go_loopw [17] (fun i wr => ∃ k : Nat, k ≤ l.length ∧ i = .int .i64 k ∧ Hid (∀ j, j < k → okAt n l j) ∧ Arr wr w.heap.size n (fun j => .bool (memB (l.take k) j)) ∧ Below w.heap.size w wr ∧ w.heap.size < wr.heap.size) (fun i _ => l.length - (intOf i).toNat)
  case atStart => exact ⟨0, Nat.zero_le _, rfl, fun j hj => absurd hj (Nat.not_lt_zero _), (Arr.made w _ n 4).congr (fun j _ => by simp [memB]), hb0, by simp⟩
  case round =>
    obtain ⟨k, hk, rfl, hok, hArr, hbr, hgr⟩ := hrel
    by_cases hlt : k < l.length
    · obtain ⟨b, off, rfl, hbb, hc⟩ := (CellsAt.below hS hbr) (by omega)
      have hck := hc k hlt
      simp only [intF] at hck
      have no : ¬ okAt n l k → Hid (¬ sideOk n s t l) := fun h => fun g => h (g.1 k hlt)
      have hb7 := hbr
      obtain ⟨v, hv⟩ : ∃ v, v = l.getD k 0 := ⟨_, rfl⟩
      rw [← hv] at hck
      by_cases h1 : 0 ≤ v
      case neg =>
        have Hn := no (fun g => h1 (by rw [hv]; exact g.1))
        clear hc hv no hArr hok
        go_wp2_with fail
        go_ret2
        exact ⟨_, false, rfl, hb7, ⟨fun h => (by cases h), fun h => absurd h Hn.out⟩, fun h => by cases h⟩
      by_cases h2 : v < n
      case neg =>
        have Hn := no (fun g => h2 (by rw [hv]; exact g.2.1))
        clear hc hv no hArr hok
        go_wp2_with fail
        go_ret2
        exact ⟨_, false, rfl, hb7, ⟨fun h => (by cases h), fun h => absurd h Hn.out⟩, fun h => by cases h⟩
      obtain ⟨u, hu⟩ := Int.eq_ofNat_of_zero_le h1
      subst hu
      have hun : u < n := by omega
      obtain ⟨m1, m2⟩ := hArr u hun
      have hnext : okAt n l k → Hid ((∀ j, j < k + 1 → okAt n l j) ∧ Arr (wr.setCell ⟨w.heap.size, u, none⟩ (.bool true)) w.heap.size n (fun j => .bool (memB (l.take (k + 1)) j))) := fun h => by
        refine ⟨fun j hj => ?_, (hArr.set hun _).congr fun j hj => ?_⟩
        · by_cases g : j < k
          · exact hok.out j g
          · obtain rfl : j = k := by omega
            exact h
        · unfold updF
          rw [memB_take_succ _ _ hlt, ← hv]
          by_cases e : j = u
          · subst e; simp
          · rw [if_neg e]
            have : (((j : Nat) : Int) == (u : Int)) = false := by simp; omega
            rw [this, Bool.or_false]
      by_cases hk0 : k = 0
      · subst hk0
        rw [Nat.add_zero] at hck
        have Hnx := hnext ⟨by rw [← hv]; omega, by rw [← hv]; omega, fun h => by omega⟩
        clear hc hv no hArr hok hnext
        go_wp2_with fail
        go_roundw
        case rel => exact ⟨1, by omega, rfl, Hnx.out.1, Hnx.out.2, hbr.setCell (Nat.le_refl _) _, by simpa using hgr⟩
        case measure => simp [intOf]; omega
      · have hp := hc (k - 1) (by omega)
        simp only [intF] at hp
        obtain ⟨p, hpp⟩ : ∃ p, p = l.getD (k - 1) 0 := ⟨_, rfl⟩
        rw [← hpp] at hp
        have e1 : ((k : Int) - 1).toNat = k - 1 := by omega
        have e2 : off + (k - 1) = off + (k - 1) := rfl
        have hk1 : (0 : Int) < (k : Int) := by omega
        by_cases h3 : p < u
        case neg =>
          have Hn := no (fun g => h3 (by rw [hv, hpp]; exact g.2.2 (by omega)))
          clear hc hv no hArr hok hpp hnext
          go_wp2_with fail
          go_ret2
          exact ⟨_, false, rfl, hb7, ⟨fun h => (by cases h), fun h => absurd h Hn.out⟩, fun h => by cases h⟩
        have Hnx := hnext ⟨by rw [← hv]; omega, by rw [← hv]; omega, fun h => by rw [← hv, ← hpp]; exact h3⟩
        clear hc hv no hArr hok hpp hnext
        go_wp2_with fail
        go_roundw
        case rel => exact ⟨k + 1, by omega, by go_num, Hnx.out.1, Hnx.out.2, hbr.setCell (Nat.le_refl _) _, by simpa using hgr⟩
        case measure => simp [intOf]; omega
    · obtain rfl : l.length = k := by omega
      have hall : l.take l.length = l := List.take_length
      rw [hall] at hArr
      have hms := (hArr s hs).1
      have hmt := (hArr t ht).1
      have HA := Lib.hid (And.intro hArr hok.out)
      obtain ⟨p, hp⟩ : ∃ p, p = memB l s := ⟨_, rfl⟩
      obtain ⟨q, hq⟩ : ∃ q, q = memB l t := ⟨_, rfl⟩
      dsimp only at hms hmt
      rw [← hp] at hms
      rw [← hq] at hmt
      have HP := Lib.hid (And.intro hp hq)
      clear hall hArr hok hp hq
      cases p <;> cases q
      all_goals
        go_wp2_with fail
        go_quiet (fail)
        go_wp2_with fail
        go_ret2
        obtain ⟨hA, hok⟩ := HA.out
        obtain ⟨hp, hq⟩ := HP.out
        refine ⟨_, _, rfl, below_drewN hbr _, ⟨?_, ?_⟩, fun _ => ⟨_, rfl, Nat.le_refl _, hgr, hA.drewN _⟩⟩
      · exact fun h => by cases h
      · exact fun h => absurd h.2.1 (of_decide_eq_false hp.symm)
      · exact fun h => by cases h
      · exact fun h => absurd h.2.1 (of_decide_eq_false hp.symm)
      · exact fun _ => ⟨hok, of_decide_eq_true hp.symm, of_decide_eq_false hq.symm⟩
      · exact fun _ => rfl
      · exact fun h => by cases h
      · exact fun h => absurd (of_decide_eq_true hq.symm) h.2.2
end Go.Proofs.Ytanhhdfffggdmaa
