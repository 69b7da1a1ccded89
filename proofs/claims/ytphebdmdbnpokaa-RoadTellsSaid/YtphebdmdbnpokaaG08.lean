/- Joined of: FA1 FA2. -/
import Derived.Laws.EntriesVeiled
import Derived.Outline
import Derived.Test.YtphebdmdbnpokaaG10
import Derived.Test.YtphebdmdbnpokaaG11
/- The walk of network.augment: pushes as long as the distances admit any. -/
set_option linter.unusedSimpArgs false
set_option linter.unusedVariables false
namespace Go.Proofs.Ytphebdmdbnpokaa.FL
open Go.RowKit FM

/-- A flow of this value, told by what is left of the edges. -/
structure Fl (A : List Arc) (s t : Int) (L : List Int) (v : Int) : Prop where
  res : Res A L
  keeps : keeps A (flowOf A L) s t
  value : exc A (flowOf A L) s = v
theorem Fl.push {A : List Arc} {s t : Int} {L L' : List Int} {v lim got : Int} {D : Int → Int} {tr tr' : Int → Nat} (h : Fl A s t L v) (hst : s ≠ t) (hP : Push A t D s lim L tr got L' tr') : Fl A s t L' (v + got) := by
  refine ⟨hP.res, fun u h1 h2 => ?_, ?_⟩
  · rw [hP.exc u, h.keeps u h1 h2]
    have e1 : (s == u) = false := by simp; exact fun e => h1 e.symm
    have e2 : (t == u) = false := by simp; exact fun e => h2 e.symm
    rw [e1, e2]; simp [ind]
  · rw [hP.exc s, h.value]
    have e2 : (t == s) = false := by simp; exact fun e => hst e.symm
    rw [e2]; simp [ind]
theorem cut_le {S : Int → Bool} : ∀ {A : List Arc}, (∀ a ∈ A, 0 ≤ a.2.2 ∧ a.2.2 ≤ 1125899906842624) → cut A S ≤ A.length * 1125899906842624
  | [], _ => by simp [cut]
  | a :: A, h => by
    have ih := cut_le (S := S) (A := A) fun b hb => h b (List.mem_cons_of_mem _ hb)
    have := h a List.mem_cons_self
    simp only [cut, List.length_cons]
    have : ind (S a.1 && !S a.2.1) a.2.2 ≤ 1125899906842624 := by unfold ind; split <;> omega
    omega
theorem Fl.le {n : Nat} {A : List Arc} {s t : Int} {L : List Int} {v : Int} (h : Fl A s t L v) (hA : inN n A) (hs0 : 0 ≤ s) (hs1 : s < n) (hst : s ≠ t) (hm : A.length ≤ 4096) (hcap : ∀ a ∈ A, 0 ≤ a.2.2 ∧ a.2.2 ≤ 1125899906842624) : v ≤ 4611686018427387904 := by
  have e1 := value_cross (S := fun u => u == s) hA hs0 hs1 h.keeps (by simp) (by simp; exact fun e => hst e.symm)
  have e2 := cross_le_cut (S := fun u => u == s) h.res.feas
  have e3 := cut_le (S := fun u => u == s) hcap
  rw [h.value] at e1
  omega

theorem old_cell {w : World} {b i : Nat} (o : Obj) (h : b < w.heap.size) : (w.alloc o).cell? ⟨b, i, none⟩ = w.cell? ⟨b, i, none⟩ := World.cell?_alloc_past _ _ _ h
theorem old_free {w : World} {b i : Nat} (o : Obj) (h : b < w.heap.size) : (w.alloc o).frozen? ⟨b, i, none⟩ = w.frozen? ⟨b, i, none⟩ := World.frozen?_alloc_past _ _ _ h
theorem new_cell {w : World} {b i : Nat} {c : Array Value} {t : TypeId} (h : b = w.heap.size) : (w.alloc (.cells c t)).cell? ⟨b, i, none⟩ = c[i]? := World.cell?_alloc_at _ _ _ _ h
theorem new_free {w : World} {b i : Nat} {c : Array Value} {t : TypeId} (h : b = w.heap.size) : (w.alloc (.cells c t)).frozen? ⟨b, i, none⟩ = false := World.frozen?_alloc_at _ _ _ _ h
def augEnv (h : Nat) : EA := ⟨h + 1, h + 1 + 1 + 1, h, h + 1 + 1 + 1 + 1, h + 1 + 1⟩
theorem env_made {w : World} {M n X t : Nat} (hM : M ≤ w.heap.size) :
    Env (((((w.alloc (.cells #[.pointer (some ⟨X, 0, none⟩)] 70)).alloc (.cells #[.int .i64 t] 3)).alloc (.cells (zeros (.int .i64 0) n) 3)).alloc (.cells #[.slice (some ⟨w.heap.size + 1 + 1, 0, none⟩) n n] 29)).alloc (.cells #[.func (.func 55) #[] (augEnv w.heap.size).caps] 72))
      M n X (augEnv w.heap.size) t (fun _ => 0) := by
  refine ⟨⟨?_, ?_, ?_, ?_, ?_⟩, ⟨?_, ?_, ?_, ?_⟩, ?_, ?_, ?_, ?_, fun v hv => ⟨?_, ?_⟩⟩
  any_goals (first | (simp only [augEnv]; omega) | fail)
  · rw [old_cell _ (by simp [augEnv] <;> omega), old_cell _ (by simp [augEnv] <;> omega), old_cell _ (by simp [augEnv] <;> omega), new_cell (by simp [augEnv] <;> omega)]; rfl
  · rw [old_cell _ (by simp [augEnv] <;> omega), new_cell (by simp [augEnv] <;> omega)]; rfl
  · rw [old_cell _ (by simp [augEnv] <;> omega), old_cell _ (by simp [augEnv] <;> omega), old_cell _ (by simp [augEnv] <;> omega), old_cell _ (by simp [augEnv] <;> omega), new_cell (by simp [augEnv] <;> omega)]; rfl
  · rw [new_cell (by simp [augEnv] <;> omega)]; rfl
  · rw [old_cell _ (by simp [augEnv] <;> omega), old_cell _ (by simp [augEnv] <;> omega), new_cell (by simp [augEnv] <;> omega), zeros_get _ hv]; rfl
  · rw [old_free _ (by simp [augEnv] <;> omega), old_free _ (by simp [augEnv] <;> omega), new_free (by simp [augEnv] <;> omega)]

/-- What augment does. -/
def AugSaid (w : World) (B M n : Nat) (A : List Arc) (a : NA) (D : Int → Int) (s t : Nat) (v : Int) (e : Ending) (w' : World) : Prop :=
  ∃ (got : Int) (L' : List Int), e = .returned (.int .i64 got) ∧ 0 < got ∧ Fl A s t L' (v + got) ∧ Net w' B M n A a L' D ∧ Keeps w.heap.size (· = a.gE) w w'

set_option maxHeartbeats 1000000 in
set_option maxRecDepth 10000 in
theorem augment_any {w : World} {B M n : Nat} {A : List Arc} {a : NA} {L : List Int} {D : Int → Int} {v : Int} (s t : Nat) (hA : inN n A) (hm : A.length ≤ 4096) (hcap : ∀ a ∈ A, 0 ≤ a.2.2 ∧ a.2.2 ≤ 1125899906842624) (hn : n ≤ 256)
    (hs : s < n) (ht : t < n) (hst : s ≠ t) (hN : Net w B M n A a L D) (hM : M ≤ w.heap.size) (hF : Fl A s t L v) (hv0 : 0 ≤ v) (hB : BfsO n A L s D []) (hD : 0 ≤ D t) :
    Calls Try.prog 48 #[.pointer (some ⟨a.X, 0, none⟩), .int .i64 s, .int .i64 t] w (AugSaid w B M n A a D s t v) := by
  have hx1 := hN.x1
  have hxl : a.X < w.heap.size := by have := hN.hi.1; omega
  have hxn := World.new_ne w _ hx1
  have hdist := hB.dist
  obtain ⟨i0, hi, hz0, hz1, hz2⟩ := info_parts info3
  have hmk := fun wx => run_make1 (P := Try.prog) 29 3 i0 (.int .i64 0) Try.underlying29 hi hz0 hz1 rfl n n (Nat.le_refl _) (by rw [hz2]; omega) (by omega) wx
  have hE0 := env_made (X := a.X) (n := n) (t := t) hM
  have hN0 := ((((hN.alloc hM (.cells #[.pointer (some ⟨a.X, 0, none⟩)] 70)).alloc (by simp; omega) (.cells #[.int .i64 t] 3)).alloc (by simp; omega) (.cells (zeros (.int .i64 0) n) 3)).alloc (by simp; omega) (.cells #[.slice (some ⟨w.heap.size + 1 + 1, 0, none⟩) n n] 29)).alloc (by simp; omega) (.cells #[.func (.func 55) #[] (augEnv w.heap.size).caps] 72)
  have hK0 : Keeps w.heap.size (· = a.gE) w _ := (((((Keeps.refl w.heap.size (· = a.gE) w).alloc (Nat.le_refl _) (.cells #[.pointer (some ⟨a.X, 0, none⟩)] 70)).alloc (by simp) (.cells #[.int .i64 t] 3)).alloc (by simp; omega) (.cells (zeros (.int .i64 0) n) 3)).alloc (by simp; omega) (.cells #[.slice (some ⟨w.heap.size + 1 + 1, 0, none⟩) n n] 29)).alloc (by simp; omega) (.cells #[.func (.func 55) #[] (augEnv w.heap.size).caps] 72)
  go_enter Try.func48, Try.ntmps48
  go_wp2_with fail
  go_loopg [9] 4611686018427387904 (fun g u wr => ∃ (sum : Int) (L1 : List Int) (tc : Int → Nat), u = .int .i64 sum ∧ 0 ≤ sum ∧ (g : Int) + v + sum = 4611686018427387904 + v ∧ Fl A s t L1 (v + sum) ∧ Net wr B M n A a L1 D ∧ Env wr M n a.X (augEnv w.heap.size) t tc ∧ (∀ u, tc u ≤ (outs A u).length) ∧ (sum = 0 → L1 = L ∧ Tried A L t D tc) ∧ Keeps w.heap.size (· = a.gE) w wr)
  case atStart => exact ⟨0, L, fun _ => 0, rfl, Int.le_refl _, by omega, by simpa using hF, hN0, hE0, fun _ => Nat.zero_le _, fun _ => ⟨rfl, fun v j e hj => absurd hj (Nat.not_lt_zero _)⟩, hK0⟩
  case round =>
    obtain ⟨sum, L1, tc, rfl, hs0, hg, hF1, hN1, hE1, htc, htr, hK1⟩ := hrel
    have hle := hF1.le hA (by omega) (by omega) (by omega) hm hcap
    have cp : wr.cell? ⟨w.heap.size + 1 + 1 + 1 + 1, 0, none⟩ = some (.func (.func 55) #[] (augEnv w.heap.size).caps) := hE1.cp
    have hMr : M ≤ wr.heap.size := Nat.le_trans hM hK1.size
    have hcall := Lib.hid (push_any (k := n) hA hm (fun a ha => (hcap a ha).2) (fun u hu => ⟨hdist.lo u (by omega) (by omega), hdist.hi u (by omega) (by omega)⟩) hn s 9223372036854775807 L1 tc wr (by rw [hdist.src]; omega) hs (by omega) (by omega) hN1 hE1 hMr hF1.res htc)
    have hH := Lib.hid (And.intro htr htc)
    clear htr htc hN0 hE0 hK0 hmk
    go_wp2_with (go_at_call 55; refine hcall.out.mono ?_; rintro e1 w1 ⟨got, L', tr', rfl, hP, hN2, hE2, hK2⟩; have hF2 := hF1.push (by omega) hP; have hle2 := hF2.le hA (by omega) (by omega) (by omega) hm hcap; have hgl := hP.lo)
    · have h0 : got = 0 := by have hb : (got == 0) = true := by assumption
                              exact of_decide_eq_true hb
      go_ret
      obtain ⟨rfl, hf⟩ := hP.fail h0
      have hpos : 0 < sum := by
        rcases Int.lt_or_le 0 sum with h | h
        · exact h
        · exfalso
          obtain ⟨rfl, hT⟩ := hH.out.1 (by omega)
          obtain ⟨f1, f2, f3⟩ := hf hT
          exact tried_alive hA hdist f1 (by omega) (by omega) hD (by omega) f3
      exact ⟨sum, _, rfl, hpos, hF1, hN2, hK1.trans (hK2.mono hK1.size (fun k hk h => by rcases h with h | h; exact h; (simp only [augEnv] at h; omega)))⟩
    · have h0 : ¬ got = 0 := by have hb : (got == 0) = false := by assumption
                                exact of_decide_eq_false hb
      obtain ⟨htr, htc⟩ := hH.out
      go_roundg (gk - got.toNat)
      case measure => omega
      case rel => exact ⟨sum + got, L', tr', rfl, by omega, by omega, by rw [← Int.add_assoc]; exact hF2, hN2, hE2, hP.trhi, fun h => by omega, hK1.trans (hK2.mono hK1.size (fun k hk h => by rcases h with h | h; exact h; (simp only [augEnv] at h; omega)))⟩
end Go.Proofs.Ytphebdmdbnpokaa.FL

/- The walk of network.fill: a maximum flow, with the distances beside it. -/
namespace Go.Proofs.Ytphebdmdbnpokaa.FL
open Go.RowKit FM

def FillSaid (w : World) (B M n : Nat) (A : List Arc) (a : NA) (s t : Nat) (e : Ending) (w' : World) : Prop :=
  ∃ (v : Int) (L' : List Int) (D' : Int → Int), e = .returned (.int .i64 v) ∧ 0 ≤ v ∧ v ≤ 4611686018427387904 ∧ Fl A s t L' v ∧ BfsO n A L' s D' [] ∧ D' t < 0 ∧ Net w' B M n A a L' D' ∧ Keeps w.heap.size (fun k => k = a.gE ∨ k = a.gD) w w'

set_option maxHeartbeats 1000000 in
set_option maxRecDepth 10000 in
theorem fill_any {w : World} {B M n : Nat} {A : List Arc} {a : NA} {L : List Int} {D : Int → Int} (s t : Nat) (hA : inN n A) (hm : A.length ≤ 4096) (hcap : ∀ a ∈ A, 0 ≤ a.2.2 ∧ a.2.2 ≤ 1125899906842624) (hn : n ≤ 256)
    (hs : s < n) (ht : t < n) (hst : s ≠ t) (hN : Net w B M n A a L D) (hM : M ≤ w.heap.size) (hF : Fl A s t L 0) :
    Calls Try.prog 35 #[.pointer (some ⟨a.X, 0, none⟩), .int .i64 s, .int .i64 t] w (FillSaid w B M n A a s t) := by
  go_enter Try.func35, Try.ntmps35
  go_wp2_with fail
  go_loopg [7] 4611686018427387904 (fun g u wr => ∃ (v : Int) (L1 : List Int) (D1 : Int → Int), u = .int .i64 v ∧ 0 ≤ v ∧ (g : Int) + v = 4611686018427387904 ∧ Fl A s t L1 v ∧ Net wr B M n A a L1 D1 ∧ Keeps w.heap.size (fun k => k = a.gE ∨ k = a.gD) w wr)
  case atStart => exact ⟨0, L, D, rfl, Int.le_refl _, by omega, hF, hN, Keeps.refl _ _ _⟩
  case round =>
    obtain ⟨v, L1, D1, rfl, hv0, hg, hF1, hN1, hK1⟩ := hrel
    have hle := hF1.le hA (by omega) (by omega) (by omega) hm hcap
    have hMr : M ≤ wr.heap.size := Nat.le_trans hM hK1.size
    have hmeas := Lib.hid (measure_any s hN1 hMr hs hn hA hm)
    go_wp2_with (go_at_call 47; refine hmeas.out.mono ?_; rintro e1 w1 ⟨rfl, D2, hN2, hB2, hK2⟩; have hx2 := hN2.x2; obtain ⟨hd, _⟩ := hN2.dist t ht; have hdl := hB2.dist.hi t (by omega) (by omega))
    · have h0 : D2 t < 0 := by assumption
      go_ret
      exact ⟨v, L1, D2, rfl, hv0, hle, hF1, hB2, h0, hN2, hK1.trans (hK2.mono hK1.size (fun k _ h => .inr h))⟩
    · have h0 : 0 ≤ D2 t := by assumption
      have hM2 : M ≤ w1.heap.size := Nat.le_trans hMr hK2.size
      have haug := Lib.hid (augment_any s t hA hm hcap hn hs ht hst hN2 hM2 hF1 hv0 hB2 h0)
      go_wp2_with (go_at_call 48; refine haug.out.mono ?_; rintro e1 w2 ⟨got, L3, rfl, hgot, hF3, hN3, hK3⟩; have hle3 := hF3.le hA (by omega) (by omega) (by omega) hm hcap)
      go_roundg (gk - got.toNat)
      case measure => omega
      case rel => exact ⟨v + got, L3, D2, rfl, by omega, by omega, hF3, hN3, (hK1.trans (hK2.mono hK1.size (fun k _ h => .inr h))).trans (hK3.mono (Nat.le_trans hK1.size hK2.size) (fun k _ h => .inl h))⟩
end Go.Proofs.Ytphebdmdbnpokaa.FL

