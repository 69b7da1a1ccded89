/- DiskArms answers true for every input. (Printed by gen_l3.py.) -/
import Derived.Test.YtfohojkclfofmaaL2
import Derived.Test.YtfohojkclfofmaaLP3
set_option linter.unusedSimpArgs false
set_option linter.unusedVariables false
namespace Go.Proofs.Ytfohojkclfofmaa
open Go.RowKit DK
attribute [local go_sem] alloc_drewN setCell_drewN shape_drewN
def strF (l : List Bts) (j : Nat) : Value := .string (bs (l.getD j []))
def StrsAt (w : World) (B : Nat) (A : Option Addr) (l : List Bts) : Prop := CellsAt w B A l.length (strF l)
theorem StrsAt.at_ {w : World} {B : Nat} {A : Option Addr} {l : List Bts} (h : StrsAt w B A l) {k : Nat} {x : Bts} (hk : l[k]? = some x) : ∃ b off, A = some ⟨b, off, none⟩ ∧ b < B ∧ w.cell? ⟨b, off + k, none⟩ = some (.string (bs x)) := by
  have hlt := (List.getElem?_eq_some_iff.1 hk).1
  obtain ⟨b, off, e, hb, hc⟩ := h (by omega)
  refine ⟨b, off, e, hb, ?_⟩
  rw [hc k hlt]
  simp [strF, List.getD_eq_getElem?_getD, hk]
theorem StrsAt.below {w w' : World} {B : Nat} {A : Option Addr} {l : List Bts} (h : StrsAt w B A l) (hb : Below B w w') : StrsAt w' B A l := CellsAt.below h hb
theorem bs_app (a b : Bts) : bs a ++ bs b = bs (a ++ b) := by
  apply ByteArray.ext; simp [bs, ByteArray.data_append]
def ArmR (w0 : World) (b : Nat) (n kp : Int) (l : List Bts) (u11 u12 u13 u14 u15 : Value) (wr : World) : Prop :=
  ∃ (safe rest first : Bts) (calls k : Nat) (s : St), u11 = .string (bs safe) ∧ u12 = .string (bs rest) ∧ u13 = .string (bs first) ∧ u14 = .int .i64 calls ∧ u15 = .int .i64 k ∧ k ≤ l.length ∧ calls ≤ 2 * k ∧ Has w0 b [] k wr s ∧
    Hid (ArU n kp l k calls safe rest first s ∨ ArD kp safe first s)
set_option maxRecDepth 100000 in
set_option maxHeartbeats 8000000 in
theorem arms_any (A : Option Addr) (c : Nat) (l : List Bts) (n kp : Int) (w : World) (hl : l.length ≤ 9223372036854775807) (hS : Hid (∀ x ∈ l, x.length ≤ 140737488355328)) (hA : StrsAt w w.heap.size A l) :
    Calls Try.prog 6 #[.slice A l.length c, .int .i64 n, .int .i64 kp] w (BoolIs true w) := by
  go_enter Try.func6, Try.ntmps6
  go_wp2_with fail
  go_at_call 7
  refine (small_any w).mono ?_
  rintro e w1 ⟨rfl, hb1⟩
  go_wp2_with fail
  go_at_call 8
  refine (Has.new w1 hb1).mono ?_
  rintro e w2 ⟨q, rfl, h, -, -⟩
  unfold dp
  have hA2 := hA.below h.below
  go_wp2_with fail
  go_loop [9, 10] (fun u9 u10 => ∃ (k : Nat) (m : Int), k ≤ l.length ∧ u9 = .int .i64 m ∧ u10 = .int .i64 k ∧ Hid (l.length ≤ 50 → m = ((l.take k).flatten.length : Int) ∧ m ≤ k * 140737488355328)) (fun _ u10 => l.length - (intOf u10).toNat)
  case atStart => exact ⟨0, 0, Nat.zero_le _, rfl, rfl, fun _ => ⟨rfl, by simp⟩⟩
  case round =>
    obtain ⟨k, m, hk, rfl, rfl, hm⟩ := hrel
    by_cases hlt : k < l.length
    · obtain ⟨x, hx⟩ : ∃ x, l[k]? = some x := ⟨_, List.getElem?_eq_getElem hlt⟩
      obtain ⟨ab, ao, rfl, hab, c0⟩ := hA2.at_ hx
      have zx := bs_size x
      have hki : (0 : Int) ≤ (k : Int) ∧ (k : Int) < (l.length : Int) := by omega
      have hm2 : Hid (l.length ≤ 50 → wrap64 (m + x.length) = ((l.take (k + 1)).flatten.length : Int) ∧ wrap64 (m + x.length) ≤ ((k + 1 : Nat) : Int) * 140737488355328) := fun h50 => by
        obtain ⟨m1, m2⟩ := hm h50
        have hxl := hS.out x (List.mem_of_getElem? hx)
        have m3 : 0 ≤ m := by omega
        rw [show wrap64 (m + x.length) = m + x.length by unfold wrap64; omega, flat_next hx, List.length_append]
        omega
      clear hm hx
      go_wp2_with fail
      go_round
      case rel => exact ⟨k + 1, wrap64 (m + x.length), by omega, by first | rfl | go_num, by go_num, hm2⟩
      case measure => simp [intOf]; omega
    · have hke : k = l.length := by omega
      have hm2 : Hid (l.length ≤ 50 → m = (l.flatten.length : Int)) := fun h50 => by have := (hm h50).1; rw [hke, List.take_length] at this; exact this
      clear hm
      have hn1 : ¬ (k : Int) < (l.length : Int) := by omega
      by_cases b1 : 50 < l.length
      · have g1 : (50 : Int) < (l.length : Int) := by omega
        have g2 : decide ((50 : Int) < (l.length : Int)) = true := decide_eq_true g1
        go_wp2_with fail
        go_ret
        exact ⟨rfl, h.below⟩
      have g1 : ¬ (50 : Int) < (l.length : Int) := by omega
      have g2 : decide ((50 : Int) < (l.length : Int)) = false := decide_eq_false g1
      have hmt := Lib.hid (hm2 (by omega))
      by_cases b2 : 20000 < m
      · have g3 : decide (20000 < m) = true := decide_eq_true b2
        go_wp2_with fail
        go_ret
        exact ⟨rfl, h.below⟩
      have g3 : decide (20000 < m) = false := decide_eq_false b2
      by_cases b3 : n < 1
      · have g4 : decide (n < 1) = true := decide_eq_true b3
        go_wp2_with fail
        go_ret
        exact ⟨rfl, h.below⟩
      have g4 : decide (n < 1) = false := decide_eq_false b3
      by_cases b4 : 100 < n
      · have g5 : decide (100 < n) = true := decide_eq_true b4
        go_wp2_with fail
        go_ret
        exact ⟨rfl, h.below⟩
      have g5 : decide (100 < n) = false := decide_eq_false b4
      have ht : Hid (l.flatten.length ≤ 20000) := by show _ ≤ _; have := hmt.out; omega
      clear hmt hm2
      go_wp2_with fail
      go_at_call 21
      refine (h.armNew (keep := [kp]) n (by omega) 1 3 (by simp) rfl).mono ?_
      clear h; rintro e2 w3 ⟨rfl, h⟩
      go_wp2_with fail
      clear g1 g2 g3 g4 g5 b2
      have rd : ∀ (s : St) (x : Bts), s.data 0 = x → s.down = false → DK.read s (0 : Nat) = (x, 0) := fun s x h1 h2 => by rw [read_up h2 (by omega), h1]
      go_loopw [11, 12, 13, 14, 15] (fun u11 u12 u13 u14 u15 wr => ArmR w q n kp l u11 u12 u13 u14 u15 wr) (fun _ _ _ _ u15 _ => l.length - (intOf u15).toNat)
      case atStart => exact ⟨[], [], [], 0, 0, _, rfl, rfl, rfl, rfl, rfl, Nat.zero_le _, Nat.zero_le _, h, .inl (ar_begin kp l (by omega))⟩
      case round =>
        obtain ⟨safe, rest, first, calls, k, s, rfl, rfl, rfl, rfl, rfl, hk, hcl, H, hJ⟩ := hrel
        clear h
        have hA3 := hA.below H.below
        have hbel := H.below
        have hk50 : k ≤ 50 := by omega
        rcases hJ with hU | hD
        · replace hU := Lib.hid hU
          have hlen : safe.length + rest.length ≤ 20000 := by
            have h1 := flat_le (l := l) k
            rw [← hU.out.all, List.length_append] at h1; have := ht.out; omega
          by_cases hlt : k < l.length
          · have hl1 : (k : Int) < (l.length : Int) := by omega
            have hki : (0 : Int) ≤ (k : Int) ∧ (k : Int) < (l.length : Int) := by omega
            obtain ⟨x, hx⟩ : ∃ x, l[k]? = some x := ⟨_, List.getElem?_eq_getElem hlt⟩
            obtain ⟨ab, ao, rfl, hab, c0⟩ := hA3.at_ hx
            have hlen2 : safe.length + rest.length + x.length ≤ 20000 := by
              have h1 := flat_le (l := l) (k + 1)
              rw [flat_next hx, ← hU.out.all, List.length_append, List.length_append] at h1; have := ht.out; omega
            have zx := bs_size x
            have zr := bs_size rest
            have ga := bs_app rest x
            have cw : IntKind.i64.wrap ((calls : Int) + 1) = (calls : Int) + 1 := by simp [IntKind.wrap, IntKind.signed, IntKind.bits]; omega
            have i9 : ¬ (9223372036854775807 : Int) < (rest.length : Int) + x.length := by omega
            have i8 : ¬ 9223372036854775807 < rest.length + x.length := by omega
            have ca := hU.out.armed
            have cp := hU.out.pos
            by_cases hdue : (calls : Int) + 1 = n
            · clear ca cp
              obtain ⟨V1, V2⟩ := hU.out.app_due hx ht.out hdue
              obtain ⟨s2, es2⟩ : ∃ s2, (DK.append s (0 : Nat) x).2 = s2 := ⟨_, rfl⟩
              rw [show (DK.append s 0 x).2 = s2 from es2] at V2
              replace V2 := Lib.hid V2
              go_upto_region 20 with (first | (go_at_call 17; refine (H.down hU.out.down).mono ?_; rintro fd1 xd1 ⟨rfl, rfl⟩) | (go_at_call 9; refine (H.append (0 : Nat) x (by omega) (by omega) V1 es2).mono ?_; clear H; rintro f4 w4 ⟨rfl, H⟩) | fail)
              clear V1 es2
              have hbe4 := H.below
              have c4 : w4.cell? ⟨ab, ao + k, none⟩ = some (.string (bs x)) := by
                obtain ⟨b', o', e', _, c1⟩ := (hA.below hbe4).at_ hx
                injection e' with e'; injection e' with e1 e2; subst e1 e2; exact c1
              clear hx hA3
              subst hdue
              by_cases hf : first = []
              · subst hf
                rw [if_pos rfl] at V2
                have y4 : bs [] = ⟨#[]⟩ := rfl
                rcases Nat.mod_two_eq_zero_or_one k with hp | hp
                · have hq1 : Int.tmod (k : Int) 2 = 0 := by rw [Int.tmod_eq_emod_of_nonneg (by omega)]; omega
                  go_wp2_with fail
                  go_round
                  case rel => exact ⟨safe, rest ++ x, x, calls + 1, k + 1, _, rfl, rfl, rfl, by go_num, by go_num, by omega, by omega, H, (.inr V2.out)⟩
                  case measure => simp [intOf]; omega
                · have hq1 : Int.tmod (k : Int) 2 = 1 := by rw [Int.tmod_eq_emod_of_nonneg (by omega)]; omega
                  go_wp2_with (first | (go_at_call 17; refine (H.down V2.out.down).mono ?_; rintro fd2 xd2 ⟨rfl, rfl⟩) | fail)
                  go_round
                  case rel => exact ⟨safe, rest ++ x, x, calls + 1, k + 1, _, rfl, rfl, rfl, by go_num, by go_num, by omega, by omega, H, (.inr V2.out)⟩
                  case measure => simp [intOf]; omega
              have hfe : (first == []) = false := by rw [beq_eq_false_iff_ne]; exact hf
              rw [if_neg hf] at V2
              have yf := bs_toList first
              rcases Nat.mod_two_eq_zero_or_one k with hp | hp
              · have hq1 : Int.tmod (k : Int) 2 = 0 := by rw [Int.tmod_eq_emod_of_nonneg (by omega)]; omega
                go_wp2_with fail
                go_round
                case rel => exact ⟨safe, rest ++ x, first, calls + 1, k + 1, _, rfl, rfl, rfl, by go_num, by go_num, by omega, by omega, H, (.inr V2.out)⟩
                case measure => simp [intOf]; omega
              · have hq1 : Int.tmod (k : Int) 2 = 1 := by rw [Int.tmod_eq_emod_of_nonneg (by omega)]; omega
                go_wp2_with (first | (go_at_call 17; refine (H.down V2.out.down).mono ?_; rintro fd2 xd2 ⟨rfl, rfl⟩) | fail)
                go_round
                case rel => exact ⟨safe, rest ++ x, first, calls + 1, k + 1, _, rfl, rfl, rfl, by go_num, by go_num, by omega, by omega, H, (.inr V2.out)⟩
                case measure => simp [intOf]; omega
            · have hnd : (calls : Int) + 1 < n := by omega
              clear ca cp
              have t1 : ((calls : Int) + 1 == n) = false := by rw [beq_eq_false_iff_ne]; exact hdue
              obtain ⟨V1, V2⟩ := hU.out.app hx ht.out hnd
              obtain ⟨s2, es2⟩ : ∃ s2, (DK.append s (0 : Nat) x).2 = s2 := ⟨_, rfl⟩
              rw [show (DK.append s 0 x).2 = s2 from es2] at V2
              replace V2 := Lib.hid V2
              go_upto_region 20 with (first | (go_at_call 17; refine (H.down hU.out.down).mono ?_; rintro fd1 xd1 ⟨rfl, rfl⟩) | (go_at_call 9; refine (H.append (0 : Nat) x (by omega) (by omega) V1 es2).mono ?_; clear H; rintro f4 w4 ⟨rfl, H⟩) | fail)
              clear V1 es2
              have hbe4 := H.below
              have c4 : w4.cell? ⟨ab, ao + k, none⟩ = some (.string (bs x)) := by
                obtain ⟨b', o', e', _, c1⟩ := (hA.below hbe4).at_ hx
                injection e' with e'; injection e' with e1 e2; subst e1 e2; exact c1
              clear hx hA3
              by_cases hf : first = []
              · subst hf
                rw [if_pos rfl] at V2
                have y4 : bs [] = ⟨#[]⟩ := rfl
                rcases Nat.mod_two_eq_zero_or_one k with hp | hp
                · have hq1 : Int.tmod (k : Int) 2 = 0 := by rw [Int.tmod_eq_emod_of_nonneg (by omega)]; omega
                  go_wp2_with fail
                  go_round
                  case rel => exact ⟨safe, rest ++ x, x, calls + 1, k + 1, _, rfl, rfl, rfl, by go_num, by go_num, by omega, by omega, H, (.inl V2.out)⟩
                  case measure => simp [intOf]; omega
                · have hq1 : Int.tmod (k : Int) 2 = 1 := by rw [Int.tmod_eq_emod_of_nonneg (by omega)]; omega
                  have cw2 : IntKind.i64.wrap (((calls + 1 : Nat) : Int) + 1) = ((calls + 2 : Nat) : Int) := by simp [IntKind.wrap, IntKind.signed, IntKind.bits]; omega
                  have cw3 : IntKind.i64.wrap ((calls : Int) + 1 + 1) = (calls : Int) + 1 + 1 := by simp [IntKind.wrap, IntKind.signed, IntKind.bits]; omega
                  by_cases hd2 : ((calls + 1 : Nat) : Int) + 1 = n
                  · obtain ⟨V3, V4⟩ := V2.out.flush_due ht.out hd2
                    obtain ⟨s3, es3⟩ : ∃ s3, (DK.flush s2 (0 : Nat)).2 = s3 := ⟨_, rfl⟩
                    rw [show (DK.flush s2 0).2 = s3 from es3] at V4
                    replace V4 := Lib.hid V4
                    have t1 : (calls : Int) + 1 + 1 = n := by omega
                    subst t1
                    go_wp2_with (first | (go_at_call 17; refine (H.down V2.out.down).mono ?_; rintro fd2 xd2 ⟨rfl, rfl⟩) | (go_at_call 10; refine (H.flush (0 : Nat) (by omega) V3 es3).mono ?_; clear H; rintro f5 w5 ⟨rfl, H⟩) | fail)
                    go_round
                    case rel => exact ⟨safe, rest ++ x, x, calls + 2, k + 1, _, rfl, rfl, rfl, by go_num, by go_num, by omega, by omega, H, (.inr V4.out)⟩
                    case measure => simp [intOf]; omega
                  · have hn2 : ((calls + 1 : Nat) : Int) + 1 < n := by have := V2.out.armed; have := V2.out.pos; omega
                    obtain ⟨V3, V4⟩ := V2.out.flush hn2
                    obtain ⟨s3, es3⟩ : ∃ s3, (DK.flush s2 (0 : Nat)).2 = s3 := ⟨_, rfl⟩
                    rw [show (DK.flush s2 0).2 = s3 from es3] at V4
                    replace V4 := Lib.hid V4
                    have t1 : (calls : Int) + 1 + 1 < n := by omega
                    have t2 : ((calls : Int) + 1 + 1 == n) = false := by rw [beq_eq_false_iff_ne]; omega
                    have t3 : ¬ (calls : Int) + 1 + 1 = n := by omega
                    have ga2 := bs_app safe (rest ++ x)
                    have zr2 : (bs (rest ++ x)).size = rest.length + x.length := by rw [bs_size, List.length_append]
                    have zs := bs_size safe
                    have j9 : ¬ (9223372036854775807 : Int) < (safe.length : Int) + (rest.length + x.length) := by omega
                    have j8 : ¬ 9223372036854775807 < safe.length + (rest.length + x.length) := by omega
                    have y5 : bs [] = ⟨#[]⟩ := rfl
                    go_wp2_with (first | (go_at_call 17; refine (H.down V2.out.down).mono ?_; rintro fd2 xd2 ⟨rfl, rfl⟩) | (go_at_call 10; refine (H.flush (0 : Nat) (by omega) V3 es3).mono ?_; clear H; rintro f5 w5 ⟨rfl, H⟩) | fail)
                    go_round
                    case rel => exact ⟨safe ++ (rest ++ x), [], [], calls + 2, k + 1, _, rfl, rfl, rfl, by go_num, by go_num, by omega, by omega, H, (.inl V4.out)⟩
                    case measure => simp [intOf]; omega
              have hfe : (first == []) = false := by rw [beq_eq_false_iff_ne]; exact hf
              rw [if_neg hf] at V2
              have yf := bs_toList first
              rcases Nat.mod_two_eq_zero_or_one k with hp | hp
              · have hq1 : Int.tmod (k : Int) 2 = 0 := by rw [Int.tmod_eq_emod_of_nonneg (by omega)]; omega
                go_wp2_with fail
                go_round
                case rel => exact ⟨safe, rest ++ x, first, calls + 1, k + 1, _, rfl, rfl, rfl, by go_num, by go_num, by omega, by omega, H, (.inl V2.out)⟩
                case measure => simp [intOf]; omega
              · have hq1 : Int.tmod (k : Int) 2 = 1 := by rw [Int.tmod_eq_emod_of_nonneg (by omega)]; omega
                have cw2 : IntKind.i64.wrap (((calls + 1 : Nat) : Int) + 1) = ((calls + 2 : Nat) : Int) := by simp [IntKind.wrap, IntKind.signed, IntKind.bits]; omega
                have cw3 : IntKind.i64.wrap ((calls : Int) + 1 + 1) = (calls : Int) + 1 + 1 := by simp [IntKind.wrap, IntKind.signed, IntKind.bits]; omega
                by_cases hd2 : ((calls + 1 : Nat) : Int) + 1 = n
                · obtain ⟨V3, V4⟩ := V2.out.flush_due ht.out hd2
                  obtain ⟨s3, es3⟩ : ∃ s3, (DK.flush s2 (0 : Nat)).2 = s3 := ⟨_, rfl⟩
                  rw [show (DK.flush s2 0).2 = s3 from es3] at V4
                  replace V4 := Lib.hid V4
                  have t1 : (calls : Int) + 1 + 1 = n := by omega
                  subst t1
                  go_wp2_with (first | (go_at_call 17; refine (H.down V2.out.down).mono ?_; rintro fd2 xd2 ⟨rfl, rfl⟩) | (go_at_call 10; refine (H.flush (0 : Nat) (by omega) V3 es3).mono ?_; clear H; rintro f5 w5 ⟨rfl, H⟩) | fail)
                  go_round
                  case rel => exact ⟨safe, rest ++ x, first, calls + 2, k + 1, _, rfl, rfl, rfl, by go_num, by go_num, by omega, by omega, H, (.inr V4.out)⟩
                  case measure => simp [intOf]; omega
                · have hn2 : ((calls + 1 : Nat) : Int) + 1 < n := by have := V2.out.armed; have := V2.out.pos; omega
                  obtain ⟨V3, V4⟩ := V2.out.flush hn2
                  obtain ⟨s3, es3⟩ : ∃ s3, (DK.flush s2 (0 : Nat)).2 = s3 := ⟨_, rfl⟩
                  rw [show (DK.flush s2 0).2 = s3 from es3] at V4
                  replace V4 := Lib.hid V4
                  have t1 : (calls : Int) + 1 + 1 < n := by omega
                  have t2 : ((calls : Int) + 1 + 1 == n) = false := by rw [beq_eq_false_iff_ne]; omega
                  have t3 : ¬ (calls : Int) + 1 + 1 = n := by omega
                  have ga2 := bs_app safe (rest ++ x)
                  have zr2 : (bs (rest ++ x)).size = rest.length + x.length := by rw [bs_size, List.length_append]
                  have zs := bs_size safe
                  have j9 : ¬ (9223372036854775807 : Int) < (safe.length : Int) + (rest.length + x.length) := by omega
                  have j8 : ¬ 9223372036854775807 < safe.length + (rest.length + x.length) := by omega
                  have y5 : bs [] = ⟨#[]⟩ := rfl
                  go_wp2_with (first | (go_at_call 17; refine (H.down V2.out.down).mono ?_; rintro fd2 xd2 ⟨rfl, rfl⟩) | (go_at_call 10; refine (H.flush (0 : Nat) (by omega) V3 es3).mono ?_; clear H; rintro f5 w5 ⟨rfl, H⟩) | fail)
                  go_round
                  case rel => exact ⟨safe ++ (rest ++ x), [], [], calls + 2, k + 1, _, rfl, rfl, rfl, by go_num, by go_num, by omega, by omega, H, (.inl V4.out)⟩
                  case measure => simp [intOf]; omega
          · have hl1 : ¬ (k : Int) < (l.length : Int) := by omega
            have R := rd s _ hU.out.data hU.out.down
            have z1 := bs_size safe
            have z2 := bs_size rest
            have ga := bs_app safe rest
            have hcn : (calls : Int) < n := by have := hU.out.armed; have := hU.out.pos; omega
            have i9 : ¬ (9223372036854775807 : Int) < (safe.length : Int) + rest.length := by omega
            have i8 : ¬ 9223372036854775807 < safe.length + rest.length := by omega
            go_wp2_with (first | (go_at_call 17; refine (H.down hU.out.down).mono ?_; rintro fd1 xd1 ⟨rfl, rfl⟩) | (go_at_call 14; refine (H.read (0 : Nat) R).mono ?_; rintro f3 x3 ⟨rfl, rfl⟩) | fail)
            go_ret
            exact ⟨rfl, hbel⟩
        · by_cases hlt : k < l.length
          · have hl1 : (k : Int) < (l.length : Int) := by omega
            have hD := hD
            have R := rd (DK.start s) _ hD.data rfl
            obtain ⟨y, ey⟩ : ∃ y, clamp kp first.length = y := ⟨_, rfl⟩
            have hy := clamp_le kp first.length
            rw [ey] at hy R
            obtain ⟨mk, fk⟩ : ∃ m, (if kp < 0 then 0 else kp) = m := ⟨_, rfl⟩
            have rk : (if (first.length : Int) < mk then (first.length : Int) else mk) = (y : Int) := by
              rw [← ey, ← fk]; unfold clamp; split <;> split <;> omega
            clear ey
            have z1 := bs_size safe
            have z2 := bs_size first
            have gy : (bs first).extract 0 y = bs (first.take y) := by rw [bs_cut first 0 y hy]; rfl
            have iy : (0 : Int) ≤ (y : Int) ∧ (y : Int) ≤ (first.length : Int) := by omega
            have ga := bs_app safe (first.take y)
            have z3 : (bs (first.take y)).size = y := by rw [bs_size, List.length_take]; omega
            have hlen := hD.len
            have i9 : ¬ (9223372036854775807 : Int) < (safe.length : Int) + y := by omega
            have i8 : ¬ 9223372036854775807 < safe.length + y := by omega
            go_wp2_with (first | (go_at_call 17; refine (H.down hD.down).mono ?_; rintro fd1 xd1 ⟨rfl, rfl⟩) | (go_at_call 13; refine (H.start rfl).mono ?_; clear H; rintro f2 w5 ⟨rfl, H⟩) | fail)
            clear hbel
            have hbel := H.below
            go_at_call 14
            refine (H.read (0 : Nat) R).mono ?_
            rintro f3 x3 ⟨rfl, rfl⟩
            go_wp2_with fail
            go_ret
            exact ⟨rfl, hbel⟩
          · have hl1 : ¬ (k : Int) < (l.length : Int) := by omega
            have hD := hD
            have R := rd (DK.start s) _ hD.data rfl
            obtain ⟨y, ey⟩ : ∃ y, clamp kp first.length = y := ⟨_, rfl⟩
            have hy := clamp_le kp first.length
            rw [ey] at hy R
            obtain ⟨mk, fk⟩ : ∃ m, (if kp < 0 then 0 else kp) = m := ⟨_, rfl⟩
            have rk : (if (first.length : Int) < mk then (first.length : Int) else mk) = (y : Int) := by
              rw [← ey, ← fk]; unfold clamp; split <;> split <;> omega
            clear ey
            have z1 := bs_size safe
            have z2 := bs_size first
            have gy : (bs first).extract 0 y = bs (first.take y) := by rw [bs_cut first 0 y hy]; rfl
            have iy : (0 : Int) ≤ (y : Int) ∧ (y : Int) ≤ (first.length : Int) := by omega
            have ga := bs_app safe (first.take y)
            have z3 : (bs (first.take y)).size = y := by rw [bs_size, List.length_take]; omega
            have hlen := hD.len
            have i9 : ¬ (9223372036854775807 : Int) < (safe.length : Int) + y := by omega
            have i8 : ¬ 9223372036854775807 < safe.length + y := by omega
            go_wp2_with (first | (go_at_call 17; refine (H.down hD.down).mono ?_; rintro fd1 xd1 ⟨rfl, rfl⟩) | (go_at_call 13; refine (H.start rfl).mono ?_; clear H; rintro f2 w5 ⟨rfl, H⟩) | fail)
            clear hbel
            have hbel := H.below
            go_at_call 14
            refine (H.read (0 : Nat) R).mono ?_
            rintro f3 x3 ⟨rfl, rfl⟩
            go_wp2_with fail
            go_ret
            exact ⟨rfl, hbel⟩
end Go.Proofs.Ytfohojkclfofmaa
