/- The walks of heap.Pop and heap.Push. -/
import Derived.Test.YtphebdmdbnpokaaH3
set_option linter.unusedSimpArgs false
set_option linter.unusedVariables false
namespace Go.Proofs.Ytphebdmdbnpokaa
open Go.RowKit RD HP
attribute [local go_sem] alloc_drewN setCell_drewN shape_drewN
def PopIs (base b : Nat) (o : Option Nat) (c : Nat) (Q : List V) (w : World) (e : Ending) (w' : World) : Prop :=
  ∃ p Q', e = .returned (.iface 79 (.agg #[.int .i64 (p : V).1, .int .i64 p.2])) ∧ HeapAt w' base b o c Q' ∧ Heap Q' Q'.length ∧ Q'.length + 1 = Q.length ∧ p ∈ Q ∧ (∀ q ∈ Q, p.1 ≤ q.1) ∧ (∀ q ∈ Q', q ∈ Q) ∧ (∀ q ∈ Q, q = p ∨ q ∈ Q') ∧ Kp (hS b o) w w'
set_option maxRecDepth 100000 in
set_option maxHeartbeats 4000000 in
theorem pop_any (base b : Nat) (o : Option Nat) (c : Nat) (Q : List V) (n : Nat) (w : World) (h : HeapAt w base b o c Q) (hq : Heap Q Q.length) (hn : Q.length = n + 1) (hm : Q.length ≤ 1000000) :
    Calls Try.prog 37 #[.iface 77 (.pointer (some ⟨b, 0, none⟩))] w (PopIs base b o c Q w) := by
  have hbox := h.box
  have n1 := nil_len ⟨b, 0, none⟩ w
  have m1 := meth_len b _ _ _ w hbox
  have n2 := nil_swap ⟨b, 0, none⟩ w
  have m2 := meth_swap b _ _ _ w hbox
  have q1 : (Q.length : Int) - 1 = (n : Int) := by omega
  have Hn := Lib.hid hn
  have Hq := Lib.hid hq
  have K1 := Lib.hid (len_any (ad o) Q.length c w (by omega))
  have K2 : Hid (Calls Try.prog 76 #[.slice (ad o) Q.length c, .int .i64 0, .int .i64 n] w fun e w' => e = .returned (.tuple #[]) ∧ HeapAt w' base b o c (swp Q 0 n) ∧ Kp (hS b o) w w') := Lib.hid (swap_heap h (i := 0) (j := n) (by omega) (by omega) hm)
  have hsl : (swp Q 0 n).length = Q.length := swp_len _ _ _
  have K3 : Hid (∀ wx, HeapAt wx base b o c (swp Q 0 n) → Calls Try.prog 49 #[.iface 77 (.pointer (some ⟨b, 0, none⟩)), .int .i64 0, .int .i64 n] wx fun e w' => (∃ x, e = .returned (.bool x)) ∧ SiftIs base b o c (swp Q 0 n) n wx w') := Lib.hid fun wx hw => down_any base b o c (swp Q 0 n) 0 n wx hw (.begin hq hn) (by rw [hsl]; exact hm) (by omega)
  have K4 := Lib.hid (fun (Q' : List V) (wx : World) (hw : HeapAt wx base b o c Q') (hl : Q'.length = n + 1) => vpop_any base b o c Q' n wx hw hl (by omega))
  have hnb : n ≤ 1000000 := by omega
  clear h hq hn
  have Hsl := Lib.hid hsl
  clear hsl
  go_enter Try.func37, Try.ntmps37
  go_wp2_with (first | (go_at_call 36; (with_reducible refine K1.out.mono ?_); rintro e1 w1 ⟨rfl, rfl⟩) | (go_at_call 76; (with_reducible refine K2.out.mono ?_); rintro e2 w2 ⟨rfl, hH2, hK2⟩; replace hH2 := Lib.hid hH2; replace hK2 := Lib.hid hK2) | (go_at_call 49; (with_reducible refine (K3.out _ hH2.out).mono ?_); rintro e3 w3 ⟨⟨x3, rfl⟩, Q3, hH3, hP3, hl3, hm3, hK3, ha3⟩; have n3 := nil_pop ⟨b, 0, none⟩ w3; have m3 := meth_pop ⟨b, 0, none⟩ w3; replace hH3 := Lib.hid hH3; replace hK3 := Lib.hid hK3; replace hP3 := Lib.hid hP3; replace hl3 := Lib.hid hl3; replace hm3 := Lib.hid hm3; replace ha3 := Lib.hid ha3) | (go_at_call 74; (with_reducible refine (K4.out Q3 _ hH3.out (by rw [hl3.out, Hsl.out]; exact Hn.out)).mono ?_); rintro e4 w4 ⟨rfl, hH4, hK4⟩; replace hH4 := Lib.hid hH4; replace hK4 := Lib.hid hK4) | fail)
  go_ret
  have hn := Hn.out
  have hl3' : Q3.length = n + 1 := by rw [hl3.out, Hsl.out]; exact hn
  have hat : HP.at_ Q3 n = HP.at_ Q 0 := by rw [ha3.out n (Nat.le_refl _), at_swp (by omega) (by omega), if_pos rfl]
  have htl : (Q3.take n).length = n := by rw [List.length_take]; omega
  have h3 : ∀ q, q ∈ Q3 ↔ q ∈ Q := fun q => (hm3.out q).trans (mem_swp (by omega) (by omega) q)
  refine ⟨HP.at_ Q 0, Q3.take n, by rw [← hat]; rfl, hH4.out, hP3.out.take hl3', by rw [htl]; omega, mem_at.2 ⟨0, by omega, rfl⟩, fun q hq => ?_, fun q hq => (h3 q).1 (List.mem_of_mem_take hq), fun q hq => ?_, (hK2.out.trans hK3.out fun _ _ e => e).trans hK4.out fun _ _ e => e⟩
  · obtain ⟨k, hk, rfl⟩ := mem_at.1 hq
    exact le_hour (Hq.out.first k hk)
  · rw [← hat]; exact (split_last hl3' q).1 ((h3 q).2 hq)
def HPushIs (base b : Nat) (o : Option Nat) (Q : List V) (p : V) (w : World) (e : Ending) (w' : World) : Prop := e = .returned (.tuple #[]) ∧ ∃ o' c' Q', HeapAt w' base b o' c' Q' ∧ Heap Q' Q'.length ∧ Q'.length = Q.length + 1 ∧ (∀ q, q ∈ Q' ↔ q ∈ Q ∨ q = p) ∧ Kp (hS b o) w w' ∧ (∀ g, o' = some g → o = some g ∨ w.heap.size ≤ g)
set_option maxRecDepth 100000 in
set_option maxHeartbeats 4000000 in
theorem push_any (base b : Nat) (o : Option Nat) (c : Nat) (Q : List V) (p : V) (w : World) (h : HeapAt w base b o c Q) (hq : Heap Q Q.length) (hm : Q.length ≤ 100000) (hB : base ≤ w.heap.size) :
    Calls Try.prog 38 #[.iface 77 (.pointer (some ⟨b, 0, none⟩)), .iface 79 (.agg #[.int .i64 p.1, .int .i64 p.2])] w (HPushIs base b o Q p w) := by
  have n1 := nil_push ⟨b, 0, none⟩ w
  have m1 := meth_push ⟨b, 0, none⟩ w
  have hql : (Q ++ [p]).length = Q.length + 1 := by simp
  have K1 := Lib.hid (vpush_any base b o c Q p w h (by omega) hB)
  have K2 := Lib.hid (fun (o' : Option Addr) (c' : Nat) (wx : World) => len_any o' (Q ++ [p]).length c' wx (by omega))
  have K3 := Lib.hid (fun (o' : Option Nat) (c' : Nat) (wx : World) (hw : HeapAt wx base b o' c' (Q ++ [p])) => up_any base b o' c' (Q ++ [p]) Q.length wx hw (.begin hq) (by omega))
  unfold PushIs at K1
  have q1 : ((Q ++ [p]).length : Int) - 1 = (Q.length : Int) := by omega
  have hqb : (Q ++ [p]).length ≤ 1000000 := by omega
  obtain ⟨L, hL⟩ : ∃ L, L = (Q ++ [p]).length := ⟨_, rfl⟩
  rw [← hL] at q1 hqb K2
  have HL := Lib.hid hL
  clear hL hql h hq
  go_enter Try.func38, Try.ntmps38
  go_wp2_with (first | (go_at_call 75; (with_reducible refine K1.out.mono ?_); rintro e1 w1 ⟨rfl, o1, c1, hH1, hK1, ho1⟩; have n2 := nil_len ⟨b, 0, none⟩ w1; have m2 := meth_len b _ _ _ w1 (by have := hH1.box; rw [← HL.out] at this; exact this); replace hH1 := Lib.hid hH1; replace hK1 := Lib.hid hK1; replace ho1 := Lib.hid ho1) | (go_at_call 36; (with_reducible refine (K2.out _ _ _).mono ?_); rintro e2 w2 ⟨rfl, rfl⟩) | (go_at_call 50; (with_reducible refine (K3.out _ _ _ hH1.out).mono ?_); rintro e3 w3 ⟨rfl, Q3, hH3, hP3, hl3, hm3, hK3, ha3⟩; replace hH3 := Lib.hid hH3; replace hK3 := Lib.hid hK3; replace hP3 := Lib.hid hP3; replace hl3 := Lib.hid hl3; replace hm3 := Lib.hid hm3; clear ha3) | fail)
  go_end0
  have hl : Q3.length = Q.length + 1 := by rw [hl3.out]; simp
  refine ⟨rfl, o1, c1, Q3, hH3.out, by rw [hl3.out]; exact hP3.out, hl, fun q => ?_, hK1.out.trans hK3.out fun k hk e => ?_, ho1.out⟩
  · rw [hm3.out q]; simp
  · rcases e with e | e
    · exact .inl e
    · rcases ho1.out k e with q | q
      · exact .inr q
      · omega
end Go.Proofs.Ytphebdmdbnpokaa
