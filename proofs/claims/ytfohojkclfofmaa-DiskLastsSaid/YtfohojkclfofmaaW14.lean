/- The law's few and do. (Printed by gen_w14.py.) -/
import Derived.Test.YtfohojkclfofmaaW13
set_option linter.unusedSimpArgs false
set_option linter.unusedVariables false
namespace Go.Proofs.Ytfohojkclfofmaa
open Go.RowKit DK
attribute [local go_sem] alloc_drewN setCell_drewN shape_drewN
def PA.zero : PA := ⟨0, 0, 0, 0, [], none, 0, []⟩
def actC (a : PA) (j : Nat) : Value := match j with
  | 0 => .int .i64 a.dO
  | 1 => .int .i64 a.f
  | 2 => .int .i64 a.g
  | 3 => .int .i64 a.n
  | 4 => .string (bs a.s)
  | _ => .slice a.A a.keep.length a.c
def actF (l : List PA) (j : Nat) : Value := actC (l.getD (j / 6) PA.zero) (j % 6)
def ActsAt (w : World) (B : Nat) (C : Option Addr) (l : List PA) : Prop := CellsAt w B C (l.length * 6) (actF l)
def KeepsAt (w : World) (B : Nat) (l : List PA) : Prop := ∀ a ∈ l, IntsAt w B a.A a.keep
structure ActAt (w : World) (b o : Nat) (a : PA) : Prop where
  c0 : w.cell? ⟨b, o, none⟩ = some (.int .i64 a.dO)
  c1 : w.cell? ⟨b, o + 1, none⟩ = some (.int .i64 a.f)
  c2 : w.cell? ⟨b, o + 2, none⟩ = some (.int .i64 a.g)
  c3 : w.cell? ⟨b, o + 3, none⟩ = some (.int .i64 a.n)
  c4 : w.cell? ⟨b, o + 4, none⟩ = some (.string (bs a.s))
  c5 : w.cell? ⟨b, o + 5, none⟩ = some (.slice a.A a.keep.length a.c)
theorem ActsAt.at_ {w : World} {B : Nat} {C : Option Addr} {l : List PA} (h : ActsAt w B C l) {k : Nat} {a : PA} (hk : l[k]? = some a) : ∃ b off, C = some ⟨b, off, none⟩ ∧ b < B ∧ ActAt w b (off + k * 6) a := by
  have hlt := (List.getElem?_eq_some_iff.1 hk).1
  obtain ⟨b, off, e, hb, hc⟩ := h (by omega)
  have key : ∀ j, j < 6 → w.cell? ⟨b, off + k * 6 + j, none⟩ = some (actC a j) := by
    intro j hj
    rw [Nat.add_assoc, hc (k * 6 + j) (by omega)]
    unfold actF
    rw [show (k * 6 + j) / 6 = k by omega, show (k * 6 + j) % 6 = j by omega]
    simp [List.getD_eq_getElem?_getD, hk]
  exact ⟨b, off, e, hb, key 0 (by omega), key 1 (by omega), key 2 (by omega), key 3 (by omega), key 4 (by omega), key 5 (by omega)⟩
theorem ActsAt.below {w w' : World} {B : Nat} {C : Option Addr} {l : List PA} (h : ActsAt w B C l) (hb : Below B w w') : ActsAt w' B C l := CellsAt.below h hb
def tot (l : List PA) : Nat := (l.map fun a => a.s.length + a.keep.length).sum
def fewP (l : List PA) : Bool := decide (l.length ≤ 200) && decide (tot l ≤ 100000)
theorem tot_next {l : List PA} {k : Nat} {a : PA} (h : l[k]? = some a) : tot (l.take (k + 1)) = tot (l.take k) + (a.s.length + a.keep.length) := by
  unfold tot; rw [List.take_add_one, h]; simp
theorem tot_mem {l : List PA} {a : PA} (h : a ∈ l) : a.s.length + a.keep.length ≤ tot l := by
  unfold tot
  induction l with
  | nil => cases h
  | cons b l ih =>
    rw [List.map_cons, List.sum_cons]
    rcases List.mem_cons.1 h with rfl | h
    · omega
    · have := ih h; omega
theorem wrap_64 (n : Int) : IntKind.i64.wrap n = wrap64 n := by unfold wrap64; exact IntKind.wrap_i64 n
set_option maxRecDepth 100000 in
theorem few_any (C : Option Addr) (c : Nat) (l : List PA) (w : World) (hl : l.length ≤ 9223372036854775807) (hS : Hid (∀ a ∈ l, a.s.length ≤ 140737488355328 ∧ a.keep.length ≤ 140737488355328)) (hC : ActsAt w w.heap.size C l) :
    Calls Try.prog 16 #[.slice C l.length c] w (BoolIs (fewP l) w) := by
  go_enter Try.func16, Try.ntmps16
  go_wp2_with fail
  go_loopw [3, 4] (fun u i wr => ∃ (k : Nat) (z : Int), k ≤ l.length ∧ u = .int .i64 z ∧ i = .int .i64 k ∧ Hid (l.length ≤ 200 → z = (tot (l.take k) : Int) ∧ z ≤ k * 281474976710656) ∧ Below w.heap.size w wr) (fun _ i _ => l.length - (intOf i).toNat)
  case atStart => exact ⟨0, 0, Nat.zero_le _, rfl, rfl, fun _ => ⟨rfl, by simp⟩, Below.refl _ _⟩
  case round =>
    obtain ⟨k, z, hk, rfl, rfl, hm, hbr⟩ := hrel
    have hzr := hbr.size
    by_cases hlt : k < l.length
    · obtain ⟨a, hx⟩ : ∃ x, l[k]? = some x := ⟨_, List.getElem?_eq_getElem hlt⟩
      obtain ⟨ab, ao, rfl, hab, hact⟩ := (hC.below hbr).at_ hx
      have hab2 : ab < wr.heap.size := by omega
      obtain ⟨-, -, -, -, c4, c5⟩ := hact
      have hki : (0 : Int) ≤ (k : Int) ∧ (k : Int) < (l.length : Int) := by omega
      have hki2 : (k : Int) < (l.length : Int) := by omega
      have zx := bs_size a.s
      have hm2 : Hid (l.length ≤ 200 → wrap64 (wrap64 (z + a.s.length) + a.keep.length) = (tot (l.take (k + 1)) : Int) ∧ wrap64 (wrap64 (z + a.s.length) + a.keep.length) ≤ ((k + 1 : Nat) : Int) * 281474976710656) := fun h50 => by
        obtain ⟨m1, m2⟩ := hm h50
        obtain ⟨b1, b2⟩ := hS.out a (List.mem_of_getElem? hx)
        have m3 : 0 ≤ z := by omega
        have e1 : wrap64 (z + a.s.length) = z + a.s.length := by unfold wrap64; omega
        have e2 : wrap64 (z + a.s.length + a.keep.length) = z + a.s.length + a.keep.length := by unfold wrap64; omega
        rw [e1, e2, tot_next hx]
        omega
      obtain ⟨y, hy⟩ : ∃ y, IntKind.i64.wrap (z + a.s.length) = y := ⟨_, rfl⟩
      obtain ⟨v, hv⟩ : ∃ v, IntKind.i64.wrap (y + a.keep.length) = v := ⟨_, rfl⟩
      rw [show wrap64 (wrap64 (z + a.s.length) + a.keep.length) = v by rw [← hv, ← hy, wrap_64, wrap_64]] at hm2
      have hy2 := hy
      have hv2 := hv
      rw [wrap_64] at hy2 hv2
      clear hm hx
      go_upto_region 5 with fail
      refine Plan.wp_region_tree (.rd 0 (.rd 1 (.rd 2 (.rd 3 (.rd 4 (.rd 5 (.rd 6 (.rd 7 (.rd 8 (.rd 9 (.rd 10 (.rd 11 (.rd 12 (.rd 13 (.rd 14 (.rd 15 .done)))))))))))))))) (by kernel_rfl) (by kernel_rfl) ?_
      (repeat (first | (refine Plan.tree_read (v := ?_) rfl rfl ?_ ?_; rotate_left; (focus ((intro wS hSw; have hkS := (bcell hSw).1; go_simp); try with_reducible rfl)); simp only [Act.put, List.setIfInBounds_toArray, List.set_cons_zero, List.set_cons_succ]) | (refine Plan.tree_skip rfl rfl ?_; simp only [Act.put, List.setIfInBounds_toArray, List.set_cons_zero, List.set_cons_succ])))
      refine Plan.tree_done ?_
      go_wp2_with fail
      go_round
      case rel => exact ⟨k + 1, v, by omega, rfl, by go_num, hm2, hbr.drew⟩
      case measure => simp [intOf]; omega
    · have hke : k = l.length := by omega
      have hm2 : Hid (l.length ≤ 200 → z = (tot l : Int)) := fun h50 => by have := (hm h50).1; rw [hke, List.take_length] at this; exact this
      have hn1 : ¬ (k : Int) < (l.length : Int) := by omega
      clear hm
      by_cases b1 : l.length ≤ 200
      · have g1 : (l.length : Int) ≤ 200 := by omega
        have g2 : decide ((l.length : Int) ≤ 200) = true := decide_eq_true g1
        have e : Hid (fewP l = decide (z ≤ 100000)) := by
          show _ = _
          unfold fewP; rw [decide_eq_true b1, hm2 b1]; simp
          constructor <;> intro h <;> omega
        clear hm2
        go_wp2_with fail
        all_goals (go_ret; exact ⟨by rw [e.out]; first | rfl | (simp_all; done), hbr⟩)
      · have g1 : ¬ (l.length : Int) ≤ 200 := by omega
        have g2 : decide ((l.length : Int) ≤ 200) = false := decide_eq_false g1
        have e : Hid (fewP l = false) := by show _ = _; unfold fewP; rw [decide_eq_false b1]; rfl
        clear hm2
        go_wp2_with fail
        go_ret
        exact ⟨by rw [e.out]; rfl, hbr⟩
def actV (a : PA) : Value := .agg #[.int .i64 a.dO, .int .i64 a.f, .int .i64 a.g, .int .i64 a.n, .string (bs a.s), .slice a.A a.keep.length a.c]
set_option maxRecDepth 100000 in
set_option maxHeartbeats 4000000 in
theorem do_any {w0 w : World} {b n : Nat} {K : List (Nat × Obj)} {s : St} (h : Has w0 b K n w s) (a : PA) (hx : a.s.length ≤ 9223372036854775807) (hm : a.n ≤ 9223372036854775807) (hk : a.keep.length ≤ 1000000000000) (hA : IntsAt w0 w0.heap.size a.A a.keep) (hn : n ≤ 999998) :
    Calls Try.prog 18 #[dp b, actV a] w fun e w' => e = .returned (.tuple #[.string (bs (doP s a).x), .int .i64 (doP s a).e]) ∧ Has w0 b K (n + 1) w' (doP s a).st := by
  obtain ⟨dO, f, g, m, x, A, c, keep⟩ := a
  dsimp only at hx hm hk hA
  unfold actV dp
  go_enter Try.func18, Try.ntmps18
  go_upto_region 1 with fail
  obtain ⟨w1, hw1⟩ : ∃ W, W = w.alloc (.cells #[.int .i64 dO, .int .i64 f, .int .i64 g, .int .i64 m, .string (bs x), .slice A keep.length c] 40) := ⟨_, rfl⟩
  rw [← hw1]
  have H : Has w0 b K n w1 s := by rw [hw1]; exact h.below_ (below_new _ _)
  have c0 : w1.cell? ⟨w.heap.size, 0, none⟩ = some (.int .i64 dO) := by rw [hw1]; simp
  have c1 : w1.cell? ⟨w.heap.size, 1, none⟩ = some (.int .i64 f) := by rw [hw1]; simp
  have c2 : w1.cell? ⟨w.heap.size, 2, none⟩ = some (.int .i64 g) := by rw [hw1]; simp
  have c3 : w1.cell? ⟨w.heap.size, 3, none⟩ = some (.int .i64 m) := by rw [hw1]; simp
  have c4 : w1.cell? ⟨w.heap.size, 4, none⟩ = some (.string (bs x)) := by rw [hw1]; simp
  have c5 : w1.cell? ⟨w.heap.size, 5, none⟩ = some (.slice A keep.length c) := by rw [hw1]; simp
  clear hw1 h
  have hA2 : Apart w0 b w1 A keep := Apart.old H hA
  clear hA
  have hb := pk_bd dO
  have hc : pk dO = 0 ∨ pk dO = 1 ∨ pk dO = 2 ∨ pk dO = 3 ∨ pk dO = 4 ∨ pk dO = 5 ∨ pk dO = 6 ∨ pk dO = 7 ∨ pk dO = 8 ∨ pk dO = 9 ∨ pk dO = 10 := by omega
  clear hb
  rcases hc with hp | hp | hp | hp | hp | hp | hp | hp | hp | hp | hp
  · have P := pick_any dO w1
    rw [hp] at P
    have hd : doP s ⟨dO, f, g, m, x, A, c, keep⟩ = ⟨[], (append s f x).1, (append s f x).2⟩ := by unfold doP; simp only [hp]; rfl
    replace hd := Lib.hid hd
    go_wp2_with (first | (go_at_call 19; refine P.mono ?_; rintro e2 w2 ⟨rfl, rfl⟩) | (go_at_call 9; refine (H.append f x hx (by omega) rfl rfl).mono ?_; rintro e3 w3 ⟨rfl, hr⟩) | fail)
    go_ret2
    exact ⟨by rw [hd.out]; rfl, by rw [hd.out]; exact hr⟩
  · have P := pick_any dO w1
    rw [hp] at P
    have hd : doP s ⟨dO, f, g, m, x, A, c, keep⟩ = ⟨[], (append s f x).1, (append s f x).2⟩ := by unfold doP; simp only [hp]; rfl
    replace hd := Lib.hid hd
    go_wp2_with (first | (go_at_call 19; refine P.mono ?_; rintro e2 w2 ⟨rfl, rfl⟩) | (go_at_call 9; refine (H.append f x hx (by omega) rfl rfl).mono ?_; rintro e3 w3 ⟨rfl, hr⟩) | fail)
    go_ret2
    exact ⟨by rw [hd.out]; rfl, by rw [hd.out]; exact hr⟩
  · have P := pick_any dO w1
    rw [hp] at P
    have hd : doP s ⟨dO, f, g, m, x, A, c, keep⟩ = ⟨[], (flush s f).1, (flush s f).2⟩ := by unfold doP; simp only [hp]; rfl
    replace hd := Lib.hid hd
    go_wp2_with (first | (go_at_call 19; refine P.mono ?_; rintro e2 w2 ⟨rfl, rfl⟩) | (go_at_call 10; refine (H.flush f (by omega) rfl rfl).mono ?_; rintro e3 w3 ⟨rfl, hr⟩) | fail)
    go_ret2
    exact ⟨by rw [hd.out]; rfl, by rw [hd.out]; exact hr.more (Nat.le_succ _)⟩
  · have P := pick_any dO w1
    rw [hp] at P
    have hd : doP s ⟨dO, f, g, m, x, A, c, keep⟩ = ⟨[], (cut s f m).1, (cut s f m).2⟩ := by unfold doP; simp only [hp]; rfl
    replace hd := Lib.hid hd
    go_wp2_with (first | (go_at_call 19; refine P.mono ?_; rintro e2 w2 ⟨rfl, rfl⟩) | (go_at_call 24; refine (H.cut f m (by omega) rfl rfl).mono ?_; rintro e3 w3 ⟨rfl, hr⟩) | fail)
    go_ret2
    exact ⟨by rw [hd.out]; rfl, by rw [hd.out]; exact hr.more (Nat.le_succ _)⟩
  · have P := pick_any dO w1
    rw [hp] at P
    have hd : doP s ⟨dO, f, g, m, x, A, c, keep⟩ = ⟨[], (turn s f g).1, (turn s f g).2⟩ := by unfold doP; simp only [hp]; rfl
    replace hd := Lib.hid hd
    go_wp2_with (first | (go_at_call 19; refine P.mono ?_; rintro e2 w2 ⟨rfl, rfl⟩) | (go_at_call 11; refine (H.turn f g (by omega) rfl rfl).mono ?_; rintro e3 w3 ⟨rfl, hr⟩) | fail)
    go_ret2
    exact ⟨by rw [hd.out]; rfl, by rw [hd.out]; exact hr.more (Nat.le_succ _)⟩
  · have P := pick_any dO w1
    rw [hp] at P
    have hd : doP s ⟨dO, f, g, m, x, A, c, keep⟩ = ⟨[], 0, crash s keep⟩ := by unfold doP; simp only [hp]; rfl
    replace hd := Lib.hid hd
    go_wp2_with (first | (go_at_call 19; refine P.mono ?_; rintro e2 w2 ⟨rfl, rfl⟩) | (go_at_call 12; refine (H.crash hA2 (by omega) (by omega) rfl).mono ?_; rintro e3 w3 ⟨rfl, hr⟩) | fail)
    go_ret2
    exact ⟨by rw [hd.out]; rfl, by rw [hd.out]; exact hr.more (Nat.le_succ _)⟩
  · have P := pick_any dO w1
    rw [hp] at P
    have hd : doP s ⟨dO, f, g, m, x, A, c, keep⟩ = ⟨[], 0, lose s m⟩ := by unfold doP; simp only [hp]; rfl
    replace hd := Lib.hid hd
    go_wp2_with (first | (go_at_call 19; refine P.mono ?_; rintro e2 w2 ⟨rfl, rfl⟩) | (go_at_call 23; refine (H.lose m hm rfl).mono ?_; rintro e3 w3 ⟨rfl, hr⟩) | fail)
    go_ret2
    exact ⟨by rw [hd.out]; rfl, by rw [hd.out]; exact hr.more (Nat.le_succ _)⟩
  · have P := pick_any dO w1
    rw [hp] at P
    have hd : doP s ⟨dO, f, g, m, x, A, c, keep⟩ = ⟨[], 0, DK.start s⟩ := by unfold doP; simp only [hp]; rfl
    replace hd := Lib.hid hd
    go_wp2_with (first | (go_at_call 19; refine P.mono ?_; rintro e2 w2 ⟨rfl, rfl⟩) | (go_at_call 13; refine (H.start rfl).mono ?_; rintro e3 w3 ⟨rfl, hr⟩) | fail)
    go_ret2
    exact ⟨by rw [hd.out]; rfl, by rw [hd.out]; exact hr.more (Nat.le_succ _)⟩
  · have P := pick_any dO w1
    rw [hp] at P
    obtain ⟨x1, v1, hre⟩ : ∃ x1 v1, DK.read s f = (x1, v1) := ⟨_, _, rfl⟩
    have hd : doP s ⟨dO, f, g, m, x, A, c, keep⟩ = ⟨x1, v1, s⟩ := by unfold doP; simp only [hp, hre]; rfl
    replace hd := Lib.hid hd
    go_wp2_with (first | (go_at_call 19; refine P.mono ?_; rintro e2 w2 ⟨rfl, rfl⟩) | (go_at_call 14; refine (H.read f hre).mono ?_; rintro e3 w3 ⟨rfl, rfl⟩) | fail)
    go_ret2
    exact ⟨by rw [hd.out]; rfl, by rw [hd.out]; exact H.more (Nat.le_succ _)⟩
  · have P := pick_any dO w1
    rw [hp] at P
    have hd : doP s ⟨dO, f, g, m, x, A, c, keep⟩ = ⟨[], 0, s⟩ := by unfold doP; simp only [hp]; rfl
    replace hd := Lib.hid hd
    go_wp2_with (first | (go_at_call 19; refine P.mono ?_; rintro e2 w2 ⟨rfl, rfl⟩) | fail)
    go_ret2
    exact ⟨by rw [hd.out]; rfl, by rw [hd.out]; exact H.more (Nat.le_succ _)⟩
  · have P := pick_any dO w1
    rw [hp] at P
    have hd : doP s ⟨dO, f, g, m, x, A, c, keep⟩ = ⟨[], 0, arm s m keep⟩ := by unfold doP; simp only [hp]; rfl
    replace hd := Lib.hid hd
    go_wp2_with (first | (go_at_call 19; refine P.mono ?_; rintro e2 w2 ⟨rfl, rfl⟩) | (go_at_call 21; refine (H.arm m hm hA2 hk rfl).mono ?_; rintro e3 w3 ⟨rfl, hr⟩) | fail)
    go_ret2
    exact ⟨by rw [hd.out]; rfl, by rw [hd.out]; exact hr.more (Nat.le_succ _)⟩
end Go.Proofs.Ytfohojkclfofmaa
