/- The walks of the closures, settle, interrupted, add, Append. -/
import Derived.Test.YtmnimcdbfolhaaaW4
set_option linter.unusedSimpArgs false
set_option linter.unusedVariables false
namespace Go.Proofs.Ytmnimcdbfolhaaa
open Go.RowKit DK
attribute [local go_sem] alloc_drewN setCell_drewN shape_drewN
theorem settle1_any (fb : Nat) (k : Nat) (wx : World) (hc : wx.cell? ⟨fb, 0, none⟩ = some (.int .i64 k)) (p : Pd) :
    Calls Try.prog 83 #[pdV p, .pointer (some ⟨fb, 0, none⟩)] wx fun e w' => e = .returned (.bool (decide (p.file = k))) ∧ Below wx.heap.size wx w' := by
  unfold pdV
  have hfb : fb < wx.heap.size := World.block_lt_of_cell? wx ⟨fb, 0, none⟩ hc
  have e : ((p.file : Int) == (k : Int)) = decide (p.file = k) := by rw [Bool.eq_iff_iff]; simp; omega
  have hb := below_new wx (.cells #[.int .i64 p.file, .int .i64 p.fr, .int .i64 p.un] 94)
  replace hb := Lib.hid hb
  go_enter Try.func83, Try.ntmps83
  go_wp2_with fail
  go_ret
  exact ⟨rfl, hb.out⟩
theorem turn1_any (fb : Nat) (k : Nat) (wx : World) (hc : wx.cell? ⟨fb, 0, none⟩ = some (.int .i64 k)) (p : Pd) :
    Calls Try.prog 72 #[pdV p, .pointer (some ⟨fb, 0, none⟩)] wx fun e w' => e = .returned (.bool (decide (p.file = k))) ∧ Below wx.heap.size wx w' := by
  unfold pdV
  have hfb : fb < wx.heap.size := World.block_lt_of_cell? wx ⟨fb, 0, none⟩ hc
  have e : ((p.file : Int) == (k : Int)) = decide (p.file = k) := by rw [Bool.eq_iff_iff]; simp; omega
  have hb := below_new wx (.cells #[.int .i64 p.file, .int .i64 p.fr, .int .i64 p.un] 94)
  replace hb := Lib.hid hb
  go_enter Try.func72, Try.ntmps72
  go_wp2_with fail
  go_ret
  exact ⟨rfl, hb.out⟩
theorem cut1_any (fb nb : Nat) (k n : Nat) (wx : World) (hc : wx.cell? ⟨fb, 0, none⟩ = some (.int .i64 k)) (hn : wx.cell? ⟨nb, 0, none⟩ = some (.int .i64 n)) (p : Pd) :
    Calls Try.prog 67 #[pdV p, .pointer (some ⟨fb, 0, none⟩), .pointer (some ⟨nb, 0, none⟩)] wx fun e w' => e = .returned (.bool (decide (p.file = k) && decide (n ≤ p.fr))) ∧ Below wx.heap.size wx w' := by
  unfold pdV
  have hfb : fb < wx.heap.size := World.block_lt_of_cell? wx ⟨fb, 0, none⟩ hc
  have hnb : nb < wx.heap.size := World.block_lt_of_cell? wx ⟨nb, 0, none⟩ hn
  have hb := below_new wx (.cells #[.int .i64 p.file, .int .i64 p.fr, .int .i64 p.un] 94)
  replace hb := Lib.hid hb
  by_cases g : p.file = k
  · have e : ((p.file : Int) == (k : Int)) = true := by rw [beq_iff_eq]; omega
    have e2 : Hid (decide (p.file = k) = true) := decide_eq_true g
    clear g
    rw [e2.out]
    go_enter Try.func67, Try.ntmps67
    go_wp2_with fail
    go_ret
    exact ⟨by simp, hb.out⟩
  · have e : ((p.file : Int) == (k : Int)) = false := by rw [beq_eq_false_iff_ne]; omega
    have e2 : Hid (decide (p.file = k) = false) := decide_eq_false g
    clear g
    rw [e2.out]
    go_enter Try.func67, Try.ntmps67
    go_wp2_with fail
    go_ret
    exact ⟨rfl, hb.out⟩
set_option maxHeartbeats 4000000 in
theorem settle_any (b : Nat) (m : Dm) (s : St) (k : Nat) (w : World) (h : DiskAt w b m s) (hq : s.q.length ≤ 1000000) :
    Calls Try.prog 68 #[dp b, .int .i64 k] w fun e w' => e = .returned (.tuple #[]) ∧ ∃ m', DiskAt w' b m' { s with q := s.q.filter (fun p => !decide (p.file = k)) } ∧ Stp b m w m' w' := by
  unfold dp
  have hb1 := below_new w (.cells #[.int .i64 k] 3)
  obtain ⟨w1, hw1⟩ : ∃ x, x = w.alloc (.cells #[.int .i64 k] 3) := ⟨_, rfl⟩
  rw [← hw1] at hb1
  have h1 := h.below hb1
  have hcb : w1.cell? ⟨w.heap.size, 0, none⟩ = some (.int .i64 k) := by rw [hw1]; simp
  have hz : w.heap.size < w1.heap.size := by rw [hw1]; simp
  have hl : some w.heap.size ≠ m.lA := fun e => by have := h.llt e.symm; omega
  have hp : Pred 83 #[.pointer (some ⟨w.heap.size, 0, none⟩)] (fun p => decide (p.file = k)) m.lA w1 := fun wx p hg => settle1_any w.heap.size k wx ((Plan.grown_cells hg w.heap.size 0 hz hl).trans hcb) p
  have K := Lib.hid (delete_any 83 #[.pointer (some ⟨w.heap.size, 0, none⟩)] _ (b + 1) m.lA m.lc s.q w1 Try.call83 h1.rl hq hp)
  have c1 := h1.cl
  have hlt := h1.lt
  obtain ⟨F, hF⟩ : ∃ F, Hid (F = s.q.filter (fun p => !decide (p.file = k))) := ⟨_, rfl⟩
  rw [← hF.out] at K ⊢
  obtain ⟨nq, hnq⟩ : ∃ n, Hid (n = s.q.length) := ⟨_, rfl⟩
  rw [← hnq.out] at K c1
  have HS := Lib.hid (Stp.of_below (b := b) (m := m) hb1)
  replace h1 := Lib.hid h1
  clear h hp hb1
  go_enter Try.func68, Try.ntmps68
  go_upto_region 1 with fail
  rw [← hw1]
  clear hw1
  go_wp2_with (go_at_call 66; (with_reducible refine K.out.mono ?_); rintro e w2 ⟨rfl, hO, hG⟩; have z := (Plan.grown_cells hG b 16 hlt (fun e => by have := h1.out.llt e.symm; omega)).trans c1; have zf := (World.frozen?_of_block (a := ⟨b, 16, none⟩) (hG.block b hlt (fun e => by have := h1.out.llt e.symm; omega))).trans (h1.out.fz 16); replace hO := Lib.hid hO; replace hG := Lib.hid hG)
  go_end0
  obtain ⟨k1, k2⟩ := h1.out.listed hG.out hO.out (.inl rfl)
  exact ⟨rfl, _, k1, HS.out.trans k2⟩
end Go.Proofs.Ytmnimcdbfolhaaa
