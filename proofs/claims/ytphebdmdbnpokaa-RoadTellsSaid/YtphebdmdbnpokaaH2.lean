/- The walks of the heap's Pop, of up and down. -/
import Derived.Test.YtphebdmdbnpokaaH1
set_option linter.unusedSimpArgs false
set_option linter.unusedVariables false
namespace Go.Proofs.Ytphebdmdbnpokaa
open Go.RowKit RD HP
attribute [local go_sem] alloc_drewN setCell_drewN shape_drewN
theorem rowV_take : ∀ (Q : List V) (n : Nat), rowV (Q.take n) = (rowV Q).take (n * 2)
  | [], n => by simp [rowV]
  | q :: Q, 0 => by simp [rowV]
  | q :: Q, n + 1 => by
    have ih := rowV_take Q n
    show visC q ++ rowV (Q.take n) = List.take ((n + 1) * 2) (visC q ++ rowV Q)
    rw [ih, show (n + 1) * 2 = (visC q).length + n * 2 by simp [visC]; omega, List.take_length_add_append]
def VPopIs (base b : Nat) (o : Option Nat) (c : Nat) (Q : List V) (n : Nat) (w : World) (e : Ending) (w' : World) : Prop :=
  e = .returned (.iface 79 (.agg #[.int .i64 (HP.at_ Q n).1, .int .i64 (HP.at_ Q n).2])) ∧ HeapAt w' base b o c (Q.take n) ∧ Kp (hS b o) w w'
set_option maxRecDepth 100000 in
set_option maxHeartbeats 2000000 in
theorem vpop_any (base b : Nat) (o : Option Nat) (c : Nat) (Q : List V) (n : Nat) (w : World) (h : HeapAt w base b o c Q) (hn : Q.length = n + 1) (hm : Q.length ≤ 1000000) :
    Calls Try.prog 74 #[.pointer (some ⟨b, 0, none⟩)] w (VPopIs base b o c Q n w) := by
  have HH := Lib.hid h
  obtain ⟨g, hg, hgb, hgl, hcell⟩ := h.get (k := n) (by omega)
  obtain ⟨c1, c2, hfr⟩ := hcell n (by omega)
  have hbl := h.box.lt
  have hne := h.ne
  have hc : w.cell? ⟨b, 0, none⟩ = some (.slice (some ⟨g, 0, none⟩) (n + 1) c) := by rw [← hn]; have := h.box.cell (j := 0) rfl; rw [hg] at this; exact this
  have hf : w.frozen? ⟨b, 0, none⟩ = false := h.box.free 0
  have hcap : n + 1 ≤ c := by have := owns_cap h.row rfl; omega
  have hrow := Lib.hid h.row
  have hbox := Lib.hid h.box
  subst hg
  have Hn := Lib.hid hn
  have hnb : n ≤ 1000000 := by omega
  clear h hn hcell hfr
  generalize hp : HP.at_ Q n = p at c1 c2
  have Hp := Lib.hid hp
  clear hp
  go_enter Try.func74, Try.ntmps74
  go_wp2_with fail
  go_ret
  have hbx : Box (w.setCell ⟨b, 0, none⟩ (.slice (some ⟨g, 0, none⟩) n c)) b #[.slice (some ⟨g, 0, none⟩) n c] 81 := hbox.out.set1 _
  have hgb2 : g ≠ b := fun e => hne (congrArg some e)
  have hln : (Q.take n).length = n := by rw [List.length_take, Hn.out]; omega
  refine ⟨by rw [Hp.out]; rfl, ⟨?_, ?_, hne⟩, ((Kp.refl _ w).setCell (p := ⟨b, 0, none⟩) (.inr (.inl rfl)) _).alloc _⟩
  · rw [hln]; exact hbx.keep (Below.heap_alloc _ _ _ (by simpa using hbl))
  · rw [hln, rowV_take]
    refine row_heap (row_cut (m := n) hrow.out (by rw [Hn.out]; omega)) fun k e => ?_
    rw [ad_block] at e
    obtain rfl := Option.some.inj e
    exact (Below.heap_alloc _ _ _ (by simpa using hgl)).trans (Below.heap_setCell _ _ _ _ hgb2)
/-- The heap's slice abides where its two blocks do. -/
theorem HeapAt.keep {w w' : World} {base b : Nat} {o : Option Nat} {c : Nat} {Q : List V} (h : HeapAt w base b o c Q) (h1 : w'.heap[b]? = w.heap[b]?) (h2 : ∀ g, o = some g → w'.heap[g]? = w.heap[g]?) : HeapAt w' base b o c Q :=
  ⟨h.box.keep h1, row_heap h.row fun k e => h2 k (by rw [ad_block] at e; exact e), h.ne⟩
theorem HeapAt.below {w w' : World} {base b : Nat} {o : Option Nat} {c : Nat} {Q : List V} (h : HeapAt w base b o c Q) (hb : Below w.heap.size w w') : HeapAt w' base b o c Q :=
  h.keep (hb.block b h.box.lt) fun g e => hb.block g (h.row.lt g (by rw [ad_block]; exact e)).2
theorem rowV_set : ∀ (Q : List V) (i : Nat) (p : V), i < Q.length → rowV (Q.set i p) = ((rowV Q).set (i * 2) (.int .i64 p.1)).set (i * 2 + 1) (.int .i64 p.2)
  | [], i, p, h => by simp at h
  | q :: Q, 0, p, _ => rfl
  | q :: Q, i + 1, p, h => by
    have ih := rowV_set Q i p (by simpa using h)
    show visC q ++ rowV (Q.set i p) = ((visC q ++ rowV Q).set ((i + 1) * 2) _).set ((i + 1) * 2 + 1) _
    rw [ih, show (i + 1) * 2 = i * 2 + 2 by omega]
    rfl
theorem HeapAt.swap {w : World} {base b : Nat} {o : Option Nat} {c : Nat} {Q : List V} (h : HeapAt w base b o c Q) {g i j : Nat} (hg : o = some g) (hi : i < Q.length) (hj : j < Q.length) :
    HeapAt (swapW w g i j (HP.at_ Q i) (HP.at_ Q j)) base b o c (swp Q i j) ∧ Kp (hS b o) w (swapW w g i j (HP.at_ Q i) (HP.at_ Q j)) := by
  subst hg
  have hne := h.ne
  have hgb : b ≠ g := fun e => hne (congrArg some e.symm)
  refine ⟨⟨?_, ?_, hne⟩, ?_⟩
  · unfold swapW swp
    rw [List.length_set, List.length_set]
    refine h.box.keep (((Below.heap_setCell _ _ _ _ hgb).trans (Below.heap_setCell _ _ _ _ hgb)).trans ((Below.heap_setCell _ _ _ _ hgb).trans (Below.heap_setCell _ _ _ _ hgb)))
  · unfold swp
    rw [rowV_set _ _ _ (by simpa using hj), rowV_set _ _ _ hi, List.length_set, List.length_set]
    exact row_set (row_set (row_set (row_set h.row _) _) _) _
  · exact ((((((Kp.refl _ w).setCell (p := ⟨g, i * 2, none⟩) (.inr (.inr rfl)) _).setCell (p := ⟨g, i * 2 + 1, none⟩) (.inr (.inr rfl)) _).setCell (p := ⟨g, j * 2, none⟩) (.inr (.inr rfl)) _).setCell (p := ⟨g, j * 2 + 1, none⟩) (.inr (.inr rfl)) _)).drew
def SiftIs (base b : Nat) (o : Option Nat) (c : Nat) (Q : List V) (n : Nat) (w w' : World) : Prop := ∃ Q', HeapAt w' base b o c Q' ∧ Heap Q' n ∧ Q'.length = Q.length ∧ (∀ p, p ∈ Q' ↔ p ∈ Q) ∧ Kp (hS b o) w w' ∧ ∀ k, n ≤ k → HP.at_ Q' k = HP.at_ Q k
theorem at_out {Q Q' : List V} (h : Q'.length = Q.length) : ∀ k, Q.length ≤ k → HP.at_ Q' k = HP.at_ Q k := fun k hk => by
  unfold HP.at_; rw [List.getD_eq_getElem?_getD, List.getD_eq_getElem?_getD, List.getElem?_eq_none hk, List.getElem?_eq_none (by omega)]
set_option maxRecDepth 100000 in
set_option maxHeartbeats 2000000 in
theorem up_any (base b : Nat) (o : Option Nat) (c : Nat) (Q : List V) (j : Nat) (w : World) (h : HeapAt w base b o c Q) (hu : Up Q j) (hm : Q.length ≤ 1000000) :
    Calls Try.prog 50 #[.iface 77 (.pointer (some ⟨b, 0, none⟩)), .int .i64 j] w fun e w' => e = .returned (.tuple #[]) ∧ SiftIs base b o c Q Q.length w w' := by
  go_enter Try.func50, Try.ntmps50
  go_wp2_with fail
  go_loopw [1] (fun jv wr => ∃ j Qr, jv = .int .i64 (j : Nat) ∧ HeapAt wr base b o c Qr ∧ Up Qr j ∧ Qr.length = Q.length ∧ (∀ p, p ∈ Qr ↔ p ∈ Q) ∧ Kp (hS b o) w wr) (fun jv _ => (intOf jv).toNat)
  case atStart => exact ⟨j, Q, rfl, h, hu, rfl, fun _ => Iff.rfl, Kp.refl _ _⟩
  case round =>
    clear h hu
    obtain ⟨j, Qr, rfl, hH, hU, hl, hmem, hK⟩ := hrel
    have hjl := hU.lt
    by_cases h0 : j = 0
    · subst h0
      have HU := Lib.hid hU
      clear hU
      go_wp2_with fail
      go_end0
      exact ⟨rfl, Qr, hH, by rw [← hl]; exact HU.out.done (.inl rfl), hl, hmem, hK, at_out hl⟩
    · obtain ⟨i, hi⟩ : ∃ i, i = (j - 1) / 2 := ⟨_, rfl⟩
      have q1 : ((j : Int) - 1).tdiv 2 = (i : Int) := by rw [Int.tdiv_eq_ediv_of_nonneg (by omega)]; omega
      have q2 : ((j : Int) - 1) / 2 = (i : Int) := by omega
      have q3 : ((i : Int) == (j : Int)) = false := by simp; omega
      have q4 : (i == j) = false := by simp; omega
      have hil : i < Qr.length := by omega
      have hijlt : i < j := by omega
      have hrl : Qr.length ≤ 1000000 := by omega
      have Hl := Lib.hid hl
      have Hm := Lib.hid hmem
      clear hl
      have hj0 : 0 < j := by omega
      have Hi := Lib.hid hi
      clear hi h0
      obtain ⟨g, hg, hgb, hgl, hcell⟩ := hH.get hjl
      obtain ⟨p1, p2, hfr⟩ := hcell j hjl
      obtain ⟨r1, r2, _⟩ := hcell i hil
      have KL := Lib.hid (less_any g c Qr.length j i (HP.at_ Qr j) (HP.at_ Qr i) wr hjl hil (by omega) p1 p2 r1 r2)
      have hbox : Box wr b #[.slice (some ⟨g, 0, none⟩) Qr.length c] 81 := by have := hH.box; rw [hg] at this; exact this
      have n1 := nil_less ⟨b, 0, none⟩ wr
      have m1 := meth_less b _ _ _ wr hbox
      have HH := Lib.hid hH
      have HU := Lib.hid hU
      have HK := Lib.hid hK
      clear hH hU hK hcell hmem p1 p2 r1 r2 hfr
      obtain ⟨lt, hlt⟩ : ∃ x, ltB (HP.at_ Qr j) (HP.at_ Qr i) = x := ⟨_, rfl⟩
      unfold LessIs at KL
      rw [hlt] at KL
      have Hlt := Lib.hid hlt
      clear hlt
      cases lt
      · go_wp2_with (first | (go_at_call 73; (with_reducible refine KL.out.mono ?_); rintro e1 w1 ⟨rfl, nq, rfl⟩) | fail)
        go_end0
        exact ⟨rfl, Qr, HH.out.below (below_drewN (Below.refl _ _) nq), by rw [← Hl.out]; exact HU.out.done (.inr (by rw [← Hi.out]; exact Hlt.out)), Hl.out, Hm.out, HK.out.drewN nq, at_out Hl.out⟩
      · have KS := Lib.hid (fun (wx : World) (hw : HeapAt wx base b o c Qr) => by
          obtain ⟨g', hg', _, _, hcell⟩ := hw.get hjl
          obtain rfl : g = g' := by rw [hg] at hg'; exact Option.some.inj hg'
          obtain ⟨p1, p2, hfr⟩ := hcell j hjl
          obtain ⟨r1, r2, _⟩ := hcell i hil
          exact swap_any g c Qr.length i j (HP.at_ Qr i) (HP.at_ Qr j) wx hil hjl (by omega) hfr r1 r2 p1 p2)
        go_wp2_with (first | (go_at_call 73; (with_reducible refine KL.out.mono ?_); rintro e1 w1 ⟨rfl, nq, rfl⟩; have n2 := nil_swap ⟨b, 0, none⟩ (wr.drewN nq); have m2 := meth_swap b _ _ _ (wr.drewN nq) hbox; have HD := Lib.hid (HH.out.below (below_drewN (Below.refl _ _) nq))) | (go_at_call 76; (with_reducible refine (KS.out _ HD.out).mono ?_); rintro e2 w2 ⟨rfl, rfl⟩) | fail)
        go_roundw
        case rel =>
          obtain ⟨s1, s2⟩ := HD.out.swap hg hil hjl
          exact ⟨i, _, rfl, s1, by rw [Hi.out]; exact HU.out.step hj0 (by rw [← Hi.out]; exact Hlt.out), by rw [swp_len]; exact Hl.out, fun p => (mem_swp hil hjl p).trans (Hm.out p), (HK.out.drewN nq).trans s2 fun _ _ e => e⟩
        case measure => simp [intOf]; omega
end Go.Proofs.Ytphebdmdbnpokaa
