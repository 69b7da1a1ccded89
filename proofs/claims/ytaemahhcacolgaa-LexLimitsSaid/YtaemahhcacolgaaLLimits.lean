/- The law LexLimits, walked. -/
import Derived.Test.YtaemahhcacolgaaLL0
import Derived.Test.YtaemahhcacolgaaLBack
import Derived.Test.YtaemahhcacolgaaArr
import Derived.Laws.BytesString
import Derived.Laws.IdiomStrings
namespace Go.Proofs.Ytaemahhcacolgaa
open Go.RowKit LX
attribute [local go_sem] alloc_drewN setCell_drewN shape_drewN

theorem Try.infoByte : (Try.prog.info? 5).map (fun i => (i.zero, i.size, i.bytes)) = some (some (.int .u8 0), 1, 1) := by kernel_rfl
def byF (u : Nat → UInt8) (j : Nat) : Value := .int .u8 ((u j).toNat : Int)
def part (u : Nat → UInt8) (k j : Nat) : Value := .int .u8 (if j < k then ((u j).toNat : Int) else 0)
theorem name_at (k : Nat) (h : k % 5 < (⟨#[97, 90, 95, 48, 57]⟩ : ByteArray).size) : ((⟨#[97, 90, 95, 48, 57]⟩ : ByteArray)[k % 5]'h) = nameU k := by
  unfold nameU
  have : k % 5 < 5 := Nat.mod_lt _ (by omega)
  generalize k % 5 = q at this h
  match q, this with
  | 0, _ => rfl
  | 1, _ => rfl
  | 2, _ => rfl
  | 3, _ => rfl
  | 4, _ => rfl
theorem num_at (k : Nat) : 48 + (k : Int) % 10 = ((numU none k).toNat : Int) := by
  unfold numU
  rw [if_neg (by simp)]
  have : k % 10 < 10 := Nat.mod_lt _ (by omega)
  rw [UInt8.toNat_ofNat']
  omega
theorem part_set (u : Nat → UInt8) (k j : Nat) : updF (part u k) k (.int .u8 ((u k).toNat : Int)) j = part u (k + 1) j := by
  unfold updF part
  by_cases h : j = k
  · subst h; rw [if_pos rfl, if_pos (by omega)]
  · rw [if_neg h]
    by_cases g : j < k
    · rw [if_pos g, if_pos (by omega)]
    · rw [if_neg g, if_neg (by omega)]
theorem part_all (u : Nat → UInt8) {n j : Nat} (h : j < n) : part u n j = byF u j := by unfold part byF; rw [if_pos h]
theorem conv_at (W : World) (g n : Nat) (l : List UInt8) (hl : l.length = n) (hc : ∀ j x, l[j]? = some x → W.cell? ⟨g, j, none⟩ = some (.int .u8 (x.toNat : Int))) :
    (convert 37 9 (.slice (some ⟨g, 0, none⟩) n n)).run Try.prog W = .ok (.string (bs l)) W := by
  subst hl
  refine run_convert_bytes_back W 37 9 5 ⟨g, 0, none⟩ _ l Try.underlying37 Try.underlying5 Try.underlying9 (fun j hj => ?_)
  rw [Addr.add_lit]
  rw [Nat.zero_add]
  exact hc j _ (List.getElem?_eq_getElem hj)
theorem conv_name (W : World) (g n : Nat) (h : Arr W g n (byF nameU)) : (convert 37 9 (.slice (some ⟨g, 0, none⟩) n n)).run Try.prog W = .ok (.string (bs (nameL n))) W :=
  conv_at W g n _ (nameL_len n) (fun j x hx => by
    have hj : j < n := by have := (List.getElem?_eq_some_iff.1 hx).1; rwa [nameL_len] at this
    rw [nameL_get n j hj] at hx
    obtain rfl := Option.some.inj hx
    exact (h j hj).1)
theorem conv_num (W : World) (g n : Nat) (fr : Option Nat) (h : Arr W g n (byF (numU fr))) : (convert 37 9 (.slice (some ⟨g, 0, none⟩) n n)).run Try.prog W = .ok (.string (bs (numL fr n))) W :=
  conv_at W g n _ (numL_len fr n) (fun j x hx => by
    have hj : j < n := by have := (List.getElem?_eq_some_iff.1 hx).1; rwa [numL_len] at this
    rw [numL_get fr n j hj] at hx
    obtain rfl := Option.some.inj hx
    exact (h j hj).1)
theorem conv_blank (W : World) (g n : Nat) (L : List UInt8) (hL : L = List.replicate n 32) (h : Arr W g n (byF fun _ => 32)) : (convert 37 9 (.slice (some ⟨g, 0, none⟩) n n)).run Try.prog W = .ok (.string (bs L)) W :=
  conv_at W g n _ (by rw [hL]; simp) (fun j x hx => by
    subst hL
    rw [List.getElem?_replicate] at hx
    split at hx
    · rename_i hj
      obtain rfl := Option.some.inj hx
      exact (h j hj).1
    · cases hx)
theorem frac_set {n m : Nat} (j : Nat) : updF (byF (numU none)) m (.int .u8 46) j = byF (numU (some m)) j := by
  unfold updF byF numU
  by_cases h : j = m
  · subst h; simp
  · rw [if_neg h]; simp only [Option.some.injEq, if_neg (fun e : m = j => h e.symm)]; simp
theorem blank_left (X : List UInt8) : (⟨#[32]⟩ : ByteArray) ++ bs X = bs (32 :: X) := by
  apply ByteArray.ext; rw [ByteArray.data_append]; simp [bs]
theorem semi_right (X : List UInt8) : bs (32 :: X) ++ (⟨#[32, 59]⟩ : ByteArray) = bs (32 :: (X ++ [32, 59])) := by
  apply ByteArray.ext; rw [ByteArray.data_append]; simp [bs]
/-- What the law asks in its three rounds. -/
theorem lim3 (n : Nat) (fr : Option Nat) (h : 1 ≤ n) (hn : n ≤ 600) (hf : ∀ k, fr = some k → 0 < k ∧ k + 1 < n) (WA : World) (T e d : Nat) (hT : WA.heap.size = T) (k : Nat) (hk : k < 3) :
    ∃ (X : List UInt8) (kd ms : Int) (tx : List UInt8),
      ((((WA.alloc (.cells #[.string (bs (nameL n)), .string (bs (numL fr n)), .string (bs (34 :: (nameL n ++ [34])))] e)).alloc (.cells #[.int .i64 0, .int .i64 1, .int .i64 2] d)).alloc (.cells #[.int .i64 24, .int .i64 24, .int .i64 500] d))).cell? ⟨T, k, none⟩ = some (.string (bs X)) ∧
      ((((WA.alloc (.cells #[.string (bs (nameL n)), .string (bs (numL fr n)), .string (bs (34 :: (nameL n ++ [34])))] e)).alloc (.cells #[.int .i64 0, .int .i64 1, .int .i64 2] d)).alloc (.cells #[.int .i64 24, .int .i64 24, .int .i64 500] d))).cell? ⟨T + 1, k, none⟩ = some (.int .i64 kd) ∧
      ((((WA.alloc (.cells #[.string (bs (nameL n)), .string (bs (numL fr n)), .string (bs (34 :: (nameL n ++ [34])))] e)).alloc (.cells #[.int .i64 0, .int .i64 1, .int .i64 2] d)).alloc (.cells #[.int .i64 24, .int .i64 24, .int .i64 500] d))).cell? ⟨T + 1 + 1, k, none⟩ = some (.int .i64 ms) ∧
      X.length ≤ 602 ∧ tx.length = n ∧ tokL (X ++ [32, 59]) = ⟨kd, tx, X.length, decide ((n : Int) ≤ ms)⟩ ∧ skipC false (X ++ [32, 59]) = 0 ∧ 24 ≤ ms ∧ ms ≤ 500 := by
  subst hT
  obtain ⟨a1, a2⟩ := name_tok n h
  obtain ⟨b1, b2⟩ := num_tok fr n h hf
  obtain ⟨c1, c2⟩ := str_tok n
  have e1 : decide ((n : Int) ≤ 24) = decide (n ≤ 24) := by congr 1; simp; omega
  have e2 : decide ((n : Int) ≤ 500) = decide (n ≤ 500) := by congr 1; simp; omega
  rw [World.cell?_alloc_past _ _ _ (by simp; omega), World.cell?_alloc_past _ _ _ (by simp), World.cell?_alloc_at _ _ _ _ rfl]
  rw [World.cell?_alloc_past _ _ _ (by simp), World.cell?_alloc_at _ _ _ _ (by simp), World.cell?_alloc_at _ _ _ _ (by simp)]
  match k, hk with
  | 0, _ => exact ⟨nameL n, 0, 24, nameL n, rfl, rfl, rfl, by rw [nameL_len]; omega, nameL_len n, by rw [a1, nameL_len, e1], a2, by decide, by decide⟩
  | 1, _ => exact ⟨numL fr n, 1, 24, numL fr n, rfl, rfl, rfl, by rw [numL_len]; omega, numL_len fr n, by rw [b1, numL_len, e1], b2, by decide, by decide⟩
  | 2, _ => exact ⟨34 :: (nameL n ++ [34]), 2, 500, nameL n, rfl, rfl, rfl, by simp [nameL_len]; omega, nameL_len n, by rw [c1, e2]; congr 1; simp [nameL_len], c2, by decide, by decide⟩
set_option maxRecDepth 100000 in
set_option maxHeartbeats 4000000 in
theorem limits_any (a f : Int) (w : World) (ha : (Lit.int .i64 a).wf = true) (hf : (Lit.int .i64 f).wf = true) :
    Calls Try.prog 7 #[.int .i64 a, .int .i64 f] w (TrueIs w) := by
  have K8 := Lib.hid fun wx => small_any wx
  by_cases h4 : 1 ≤ a ∧ a ≤ 600
  case neg =>
    by_cases h1 : a < 1
    · go_enter Try.func7, Try.ntmps7
      go_wp2_with (first | (go_at_call 8; ((with_reducible refine (K8.out _).mono ?_); rintro e1 w1 ⟨rfl, hb1⟩)) | fail)
      go_ret
      exact ⟨rfl, hb1⟩
    · have h2 : 600 < a := by omega
      clear h4
      go_enter Try.func7, Try.ntmps7
      go_wp2_with (first | (go_at_call 8; ((with_reducible refine (K8.out _).mono ?_); rintro e1 w1 ⟨rfl, hb1⟩)) | fail)
      go_ret
      exact ⟨rfl, hb1⟩
  obtain ⟨n, rfl⟩ : ∃ n : Nat, a = (n : Int) := ⟨a.toNat, by omega⟩
  have hn1 : 1 ≤ n := by omega
  have hn2 : n ≤ 600 := by omega
  obtain ⟨i0, hi, hz0, hz1, hz2⟩ := info_parts Try.infoByte
  have hmk := fun wx => run_make1 (P := Try.prog) 37 5 i0 (.int .u8 0) Try.underlying37 hi hz0 hz1 rfl n n (Nat.le_refl _) (by rw [hz2]; omega) (by omega) wx
  obtain ⟨M, hM⟩ : ∃ M, M = 65536 := ⟨_, rfl⟩
  have hmk2 : ∀ wx, (Instr.makeSlice 37 (.int .i64 65536) (.int .i64 65536)).run Try.prog wx = .ok (.slice (some ⟨wx.heap.size, 0, none⟩) M M) (wx.alloc (.cells (zeros (.int .u8 0) M) 5)) := fun wx => by rw [hM]; exact run_make1 (P := Try.prog) 37 5 i0 (.int .u8 0) Try.underlying37 hi hz0 hz1 rfl 65536 65536 (Nat.le_refl _) (by rw [hz2]; omega) (by omega) wx
  have HM2 := Lib.hid hmk2
  have hMl : M ≤ 65536 := by omega
  have hMg : 65536 ≤ M := by omega
  clear hmk2 hM
  have d1 : decide ((n : Int) < 1) = false := decide_eq_false (by omega)
  have d2 : decide ((600 : Int) < (n : Int)) = false := decide_eq_false (by omega)
  clear h4
  go_enter Try.func7, Try.ntmps7
  go_wp2_with (first | (go_at_call 8; ((with_reducible refine (K8.out _).mono ?_); rintro e1 w1 ⟨rfl, hb1⟩)) | fail)
  clear hmk
  go_loopw [8] (fun i wr => ∃ k : Nat, k ≤ n ∧ i = .int .i64 k ∧ Arr wr w1.heap.size n (part nameU k) ∧ Arr wr (w1.heap.size + 1) n (part (numU none) k) ∧ Below w1.heap.size w1 wr ∧ w1.heap.size + 1 < wr.heap.size) (fun i _ => n - (intOf i).toNat)
  case atStart =>
    have m1 := Arr.made w1 (.int .u8 0) n 5
    have m2 := Arr.made (w1.alloc (.cells (zeros (.int .u8 0) n) 5)) (.int .u8 0) n 5
    rw [World.size_alloc] at m2
    exact ⟨0, Nat.zero_le _, rfl, (m1.alloc (by simp) _).congr (fun j _ => by simp [part]), m2.congr (fun j _ => by simp [part]), ((Below.refl _ _).alloc (Nat.le_refl _) _).alloc (by simp) _, by simp⟩
  case round =>
    obtain ⟨k, hk, rfl, hA1, hA2, hB, hz⟩ := hrel
    by_cases hlt : k < n
    · obtain ⟨c1, f1⟩ := hA1 k hlt
      obtain ⟨c2, f2⟩ := hA2 k hlt
      go_wp2_with fail
      go_roundw
      case rel =>
        rw [name_at, num_at]
        refine ⟨k + 1, by omega, by go_num, ?_, ?_, (hB.setCell (p := ⟨w1.heap.size, k, none⟩) (Nat.le_refl _) _).setCell (p := ⟨w1.heap.size + 1, k, none⟩) (by simp) _, by simpa using hz⟩
        · exact ((hA1.set hlt _).far (p := ⟨w1.heap.size + 1, k, none⟩) (by simp) _).congr (fun j _ => part_set nameU k j)
        · exact ((hA2.far (p := ⟨w1.heap.size, k, none⟩) (by simp) _).set hlt _).congr (fun j _ => part_set (numU none) k j)
      case measure => simp [intOf]; omega
    · have hke : k = n := by omega
      subst hke
      have hN : Arr wr w1.heap.size k (byF nameU) := hA1.congr (fun j hj => part_all _ hj)
      have hM : Arr wr (w1.heap.size + 1) k (byF (numU none)) := hA2.congr (fun j hj => part_all _ hj)
      clear hA1 hA2
      by_cases hfr : 0 < f ∧ f < (k : Int) - 1
      · obtain ⟨m, rfl⟩ : ∃ m : Nat, f = (m : Int) := ⟨f.toNat, by omega⟩
        have hm0 : 0 < m := by omega
        have hm1 : m + 1 < k := by omega
        have hm2 : (m : Int) < (k : Int) - 1 := by omega
        obtain ⟨c2, f2⟩ := hM m (by omega)
        have hN := hN.far (p := ⟨w1.heap.size + 1, m, none⟩) (by simp) (.int .u8 46)
        have hM := (hM.set (i := m) (by omega) (.int .u8 46)).congr (fun j _ => frac_set (n := k) j)
        have hB := hB.setCell (p := ⟨w1.heap.size + 1, m, none⟩) (by simp) (.int .u8 46)
        clear hfr
        have q1 := conv_name (wr.setCell ⟨w1.heap.size + 1, m, none⟩ (.int .u8 46)) w1.heap.size k hN
        have q2 := conv_num (wr.setCell ⟨w1.heap.size + 1, m, none⟩ (.int .u8 46)) (w1.heap.size + 1) k (some m) hM
        have q3 := quote_left (nameL k)
        have q4 := quote_right (nameL k)
        have q5 : (bs (nameL k)).size = k := nameL_len k
        have q6 : (bs (34 :: nameL k)).size = k + 1 := by show (34 :: nameL k).length = _; simp [nameL_len]
        go_wp2_with fail
        clear q1 q2 q3 q4 q5 q6
        have hL3 := Lib.hid (lim3 k (some m) hn1 hn2 (fun q e => by obtain rfl := Option.some.inj e; exact ⟨hm0, hm1⟩) (wr.setCell ⟨w1.heap.size + 1, m, none⟩ (.int .u8 46)) wr.heap.size 9 3 (by simp))
        obtain ⟨W3, hW3⟩ : ∃ W3, (((wr.setCell ⟨w1.heap.size + 1, m, none⟩ (.int .u8 46)).alloc (.cells #[.string (bs (nameL k)), .string (bs (numL (some m) k)), .string (bs (34 :: (nameL k ++ [34])))] 9)).alloc (.cells #[.int .i64 0, .int .i64 1, .int .i64 2] 3)).alloc (.cells #[.int .i64 24, .int .i64 24, .int .i64 500] 3) = W3 := ⟨_, rfl⟩
        have hz3 : W3.heap.size = wr.heap.size + 1 + 1 + 1 := by rw [← hW3]; simp
        have hB3 : Below w1.heap.size w1 W3 := by rw [← hW3]; exact ((hB.alloc hB.size _).alloc (by simp; omega) _).alloc (by simp; omega) _
        simp only [hW3] at hL3
        rw [hW3]
        clear hW3 hB hN hM c2 f2
        generalize wr.heap.size = T at hz hz3 hL3 ⊢
        go_loopw [12] (fun x wr2 => ∃ j : Nat, j ≤ 3 ∧ x = .int .i64 j ∧ Below W3.heap.size W3 wr2) (fun x _ => 3 - (intOf x).toNat)
        case atStart => exact ⟨0, by omega, rfl, Below.refl _ _⟩
        case round =>
          obtain ⟨j, hj, rfl, hB⟩ := hrel
          by_cases hlt : j < 3
          · obtain ⟨X, kd, ms, tx, x1, x2, x3, hXl, htl, htok, hsk, hm1, hm2⟩ := hL3.out j hlt
            have y1 := (hB.cell (p := ⟨T, j, none⟩) (by show T < _; omega)).trans x1
            have y2 := (hB.cell (p := ⟨T + 1, j, none⟩) (by show T + 1 < _; omega)).trans x2
            have y3 := (hB.cell (p := ⟨T + 1 + 1, j, none⟩) (by show T + 1 + 1 < _; omega)).trans x3
            have r1 := blank_left X
            have r2 := semi_right X
            have s1 : (bs X).size = X.length := rfl
            have s2 : (bs (32 :: X)).size = X.length + 1 := rfl
            have s3 : (bs (32 :: (X ++ [32, 59]))).size = X.length + 3 := by show (32 :: (X ++ [32, 59])).length = _; simp
            have hzr := hB.size
            by_cases hms : (k : Int) ≤ ms
            · rw [decide_eq_true hms] at htok
              have K1 := Lib.hid fun wx => scan_ok (bs (32 :: (X ++ [32, 59]))) wx (by omega) (by rw [bs_list]; exact (one_tok htok hsk).1 rfl)
              have HX : Hid ((([⟨kd, tx, 1⟩, ⟨3, [59], X.length + 2⟩, ⟨4, [], X.length + 3⟩] : List Tok)[0]?) = some ⟨kd, tx, 1⟩) := rfl
              have s5 : (bs tx).size = k := htl
              clear htok hsk s3 htl x1 x2 x3
              go_wp2_with (first | (go_at_call 10; ((with_reducible refine (K1.out _).mono ?_); rintro e4 w4 ⟨C4, c4, rfl, hT4, hb4⟩; have y2 := (hb4.cell (p := ⟨T + 1, j, none⟩) (by show T + 1 < _; omega)).trans y2; have y3 := (hb4.cell (p := ⟨T + 1 + 1, j, none⟩) (by show T + 1 + 1 < _; omega)).trans y3; obtain ⟨bq, oq, rfl, hbq, g0, g1, g2⟩ := hT4.tok HX.out)) | fail)
              have gj : 0 ≤ (j : Int) ∧ (j : Int) < 3 := by omega
              rw [Nat.zero_mul, Nat.add_zero] at g0 g1 g2
              go_quiet (fail)
              go_wp2_with fail
              go_roundw
              case rel => exact ⟨j + 1, by omega, by go_num, below_drewN (hB.trans (hb4.mono (by omega))) _⟩
              case measure => simp [intOf]; omega
            · rw [decide_eq_false hms] at htok
              have K1 := Lib.hid fun wx => scan_bad (bs (32 :: (X ++ [32, 59]))) wx (by omega) (by rw [bs_list]; exact (one_tok htok hsk).2 rfl)
              have hms : ms < (k : Int) := by omega
              clear htok hsk s3 htl x1 x2 x3
              go_wp2_with (first | (go_at_call 10; ((with_reducible refine (K1.out _).mono ?_); rintro e4 w4 ⟨rfl, hb4⟩; have y3 := (hb4.cell (p := ⟨T + 1 + 1, j, none⟩) (by show T + 1 + 1 < _; omega)).trans y3)) | fail)
              go_roundw
              case rel => exact ⟨j + 1, by omega, by go_num, hB.trans (hb4.mono (by omega))⟩
              case measure => simp [intOf]; omega
          · have hje : j = 3 := by omega
            subst hje
            have hmk2 := HM2.out
            go_wp2_with fail
            clear hmk2
            have hzr := hB.size
            obtain ⟨wo, rfl⟩ : ∃ wo, wo = wr := ⟨_, rfl⟩
            go_loopw [17] (fun x wr3 => ∃ q : Nat, q ≤ M ∧ x = .int .i64 q ∧ Arr wr3 wo.heap.size M (part (fun _ => 32) q) ∧ Below wo.heap.size wo wr3 ∧ wo.heap.size < wr3.heap.size) (fun x _ => M - (intOf x).toNat)
            case atStart => exact ⟨0, by omega, rfl, (Arr.made wo (.int .u8 0) M 5).congr (fun j _ => by simp [part]), (Below.refl _ _).alloc (Nat.le_refl _) _, by simp⟩
            case round =>
              obtain ⟨q, hq, rfl, hA, hC, hCz⟩ := hrel
              by_cases hlq : q < M
              · obtain ⟨c1, f1⟩ := hA q hlq
                go_wp2_with fail
                go_roundw
                case rel => exact ⟨q + 1, by omega, by go_num, (hA.set hlq _).congr (fun j _ => part_set (fun _ => 32) q j), hC.setCell (p := ⟨wo.heap.size, q, none⟩) (Nat.le_refl _) _, by simpa using hCz⟩
                case measure => simp [intOf]; omega
              · have hqe : q = M := by omega
                subst hqe
                have hA := hA.congr (fun j hj => part_all (fun _ => 32) hj)
                obtain ⟨L, hL⟩ : ∃ L : List UInt8, L = List.replicate q 32 := ⟨_, rfl⟩
                have hLl : L.length = q := by rw [hL]; simp
                have K1 := Lib.hid fun wx => scan_ok (bs L) wx (by show L.length ≤ _; omega) (by rw [bs_list, hL]; exact blanks_sc q)
                have hs1 : (bs L).size = q := hLl
                have K2 := Lib.hid fun wx => scan_full (bs (L ++ [32])) wx (by show 65536 < (L ++ [32]).length; simp; omega) (by show (L ++ [32]).length ≤ _; simp; omega)
                have r1 := bs_blank L
                have v1 := conv_blank wr wo.heap.size q L hL hA
                have HC := Lib.hid fun (wx : World) (hx : Below wr.heap.size wr wx) => conv_blank wx wo.heap.size q L hL (hA.below hx hCz)
                clear hL hLl hA
                go_wp2_with (first | (go_at_call 10; ((with_reducible refine (K1.out _).mono ?_); rintro e5 w5 ⟨C5, c5, rfl, hT5, hb5⟩; have v2 := HC.out w5 hb5)) | (go_at_call 10; ((with_reducible refine (K2.out _).mono ?_); rintro e6 w6 ⟨rfl, hb6⟩)) | fail)
                go_ret
                have z1 := hb1.size
                have z2 := hB3.size
                have z3 := hB.size
                have z5 := hb5.size
                exact ⟨rfl, ((((hb1.trans (hB3.mono z1)).trans (hB.mono (by omega))).trans (hC.mono (by omega))).trans (hb5.mono (by omega))).trans (hb6.mono (by omega))⟩
      · by_cases hf0 : 0 < f
        · have hf1 : (k : Int) - 1 ≤ f := by omega
          have hf2 : decide (f < (k : Int) - 1) = false := decide_eq_false (by omega)
          clear hfr
          have q1 := conv_name wr w1.heap.size k hN
          have q2 := conv_num wr (w1.heap.size + 1) k none hM
          have q3 := quote_left (nameL k)
          have q4 := quote_right (nameL k)
          have q5 : (bs (nameL k)).size = k := nameL_len k
          have q6 : (bs (34 :: nameL k)).size = k + 1 := by show (34 :: nameL k).length = _; simp [nameL_len]
          go_wp2_with fail
          clear q1 q2 q3 q4 q5 q6
          have hL3 := Lib.hid (lim3 k none hn1 hn2 (fun q e => by cases e) wr wr.heap.size 9 3 rfl)
          obtain ⟨W3, hW3⟩ : ∃ W3, ((wr.alloc (.cells #[.string (bs (nameL k)), .string (bs (numL none k)), .string (bs (34 :: (nameL k ++ [34])))] 9)).alloc (.cells #[.int .i64 0, .int .i64 1, .int .i64 2] 3)).alloc (.cells #[.int .i64 24, .int .i64 24, .int .i64 500] 3) = W3 := ⟨_, rfl⟩
          have hz3 : W3.heap.size = wr.heap.size + 1 + 1 + 1 := by rw [← hW3]; simp
          have hB3 : Below w1.heap.size w1 W3 := by rw [← hW3]; exact ((hB.alloc hB.size _).alloc (by simp; omega) _).alloc (by simp; omega) _
          simp only [hW3] at hL3
          rw [hW3]
          clear hW3 hB hN hM
          generalize wr.heap.size = T at hz hz3 hL3 ⊢
          go_loopw [12] (fun x wr2 => ∃ j : Nat, j ≤ 3 ∧ x = .int .i64 j ∧ Below W3.heap.size W3 wr2) (fun x _ => 3 - (intOf x).toNat)
          case atStart => exact ⟨0, by omega, rfl, Below.refl _ _⟩
          case round =>
            obtain ⟨j, hj, rfl, hB⟩ := hrel
            by_cases hlt : j < 3
            · obtain ⟨X, kd, ms, tx, x1, x2, x3, hXl, htl, htok, hsk, hm1, hm2⟩ := hL3.out j hlt
              have y1 := (hB.cell (p := ⟨T, j, none⟩) (by show T < _; omega)).trans x1
              have y2 := (hB.cell (p := ⟨T + 1, j, none⟩) (by show T + 1 < _; omega)).trans x2
              have y3 := (hB.cell (p := ⟨T + 1 + 1, j, none⟩) (by show T + 1 + 1 < _; omega)).trans x3
              have r1 := blank_left X
              have r2 := semi_right X
              have s1 : (bs X).size = X.length := rfl
              have s2 : (bs (32 :: X)).size = X.length + 1 := rfl
              have s3 : (bs (32 :: (X ++ [32, 59]))).size = X.length + 3 := by show (32 :: (X ++ [32, 59])).length = _; simp
              have hzr := hB.size
              by_cases hms : (k : Int) ≤ ms
              · rw [decide_eq_true hms] at htok
                have K1 := Lib.hid fun wx => scan_ok (bs (32 :: (X ++ [32, 59]))) wx (by omega) (by rw [bs_list]; exact (one_tok htok hsk).1 rfl)
                have HX : Hid ((([⟨kd, tx, 1⟩, ⟨3, [59], X.length + 2⟩, ⟨4, [], X.length + 3⟩] : List Tok)[0]?) = some ⟨kd, tx, 1⟩) := rfl
                have s5 : (bs tx).size = k := htl
                clear htok hsk s3 htl x1 x2 x3
                go_wp2_with (first | (go_at_call 10; ((with_reducible refine (K1.out _).mono ?_); rintro e4 w4 ⟨C4, c4, rfl, hT4, hb4⟩; have y2 := (hb4.cell (p := ⟨T + 1, j, none⟩) (by show T + 1 < _; omega)).trans y2; have y3 := (hb4.cell (p := ⟨T + 1 + 1, j, none⟩) (by show T + 1 + 1 < _; omega)).trans y3; obtain ⟨bq, oq, rfl, hbq, g0, g1, g2⟩ := hT4.tok HX.out)) | fail)
                have gj : 0 ≤ (j : Int) ∧ (j : Int) < 3 := by omega
                rw [Nat.zero_mul, Nat.add_zero] at g0 g1 g2
                go_quiet (fail)
                go_wp2_with fail
                go_roundw
                case rel => exact ⟨j + 1, by omega, by go_num, below_drewN (hB.trans (hb4.mono (by omega))) _⟩
                case measure => simp [intOf]; omega
              · rw [decide_eq_false hms] at htok
                have K1 := Lib.hid fun wx => scan_bad (bs (32 :: (X ++ [32, 59]))) wx (by omega) (by rw [bs_list]; exact (one_tok htok hsk).2 rfl)
                have hms : ms < (k : Int) := by omega
                clear htok hsk s3 htl x1 x2 x3
                go_wp2_with (first | (go_at_call 10; ((with_reducible refine (K1.out _).mono ?_); rintro e4 w4 ⟨rfl, hb4⟩; have y3 := (hb4.cell (p := ⟨T + 1 + 1, j, none⟩) (by show T + 1 + 1 < _; omega)).trans y3)) | fail)
                go_roundw
                case rel => exact ⟨j + 1, by omega, by go_num, hB.trans (hb4.mono (by omega))⟩
                case measure => simp [intOf]; omega
            · have hje : j = 3 := by omega
              subst hje
              have hmk2 := HM2.out
              go_wp2_with fail
              clear hmk2
              have hzr := hB.size
              obtain ⟨wo, rfl⟩ : ∃ wo, wo = wr := ⟨_, rfl⟩
              go_loopw [17] (fun x wr3 => ∃ q : Nat, q ≤ M ∧ x = .int .i64 q ∧ Arr wr3 wo.heap.size M (part (fun _ => 32) q) ∧ Below wo.heap.size wo wr3 ∧ wo.heap.size < wr3.heap.size) (fun x _ => M - (intOf x).toNat)
              case atStart => exact ⟨0, by omega, rfl, (Arr.made wo (.int .u8 0) M 5).congr (fun j _ => by simp [part]), (Below.refl _ _).alloc (Nat.le_refl _) _, by simp⟩
              case round =>
                obtain ⟨q, hq, rfl, hA, hC, hCz⟩ := hrel
                by_cases hlq : q < M
                · obtain ⟨c1, f1⟩ := hA q hlq
                  go_wp2_with fail
                  go_roundw
                  case rel => exact ⟨q + 1, by omega, by go_num, (hA.set hlq _).congr (fun j _ => part_set (fun _ => 32) q j), hC.setCell (p := ⟨wo.heap.size, q, none⟩) (Nat.le_refl _) _, by simpa using hCz⟩
                  case measure => simp [intOf]; omega
                · have hqe : q = M := by omega
                  subst hqe
                  have hA := hA.congr (fun j hj => part_all (fun _ => 32) hj)
                  obtain ⟨L, hL⟩ : ∃ L : List UInt8, L = List.replicate q 32 := ⟨_, rfl⟩
                  have hLl : L.length = q := by rw [hL]; simp
                  have K1 := Lib.hid fun wx => scan_ok (bs L) wx (by show L.length ≤ _; omega) (by rw [bs_list, hL]; exact blanks_sc q)
                  have hs1 : (bs L).size = q := hLl
                  have K2 := Lib.hid fun wx => scan_full (bs (L ++ [32])) wx (by show 65536 < (L ++ [32]).length; simp; omega) (by show (L ++ [32]).length ≤ _; simp; omega)
                  have r1 := bs_blank L
                  have v1 := conv_blank wr wo.heap.size q L hL hA
                  have HC := Lib.hid fun (wx : World) (hx : Below wr.heap.size wr wx) => conv_blank wx wo.heap.size q L hL (hA.below hx hCz)
                  clear hL hLl hA
                  go_wp2_with (first | (go_at_call 10; ((with_reducible refine (K1.out _).mono ?_); rintro e5 w5 ⟨C5, c5, rfl, hT5, hb5⟩; have v2 := HC.out w5 hb5)) | (go_at_call 10; ((with_reducible refine (K2.out _).mono ?_); rintro e6 w6 ⟨rfl, hb6⟩)) | fail)
                  go_ret
                  have z1 := hb1.size
                  have z2 := hB3.size
                  have z3 := hB.size
                  have z5 := hb5.size
                  exact ⟨rfl, ((((hb1.trans (hB3.mono z1)).trans (hB.mono (by omega))).trans (hC.mono (by omega))).trans (hb5.mono (by omega))).trans (hb6.mono (by omega))⟩
        · have hf1 : f ≤ 0 := by omega
          clear hfr
          have q1 := conv_name wr w1.heap.size k hN
          have q2 := conv_num wr (w1.heap.size + 1) k none hM
          have q3 := quote_left (nameL k)
          have q4 := quote_right (nameL k)
          have q5 : (bs (nameL k)).size = k := nameL_len k
          have q6 : (bs (34 :: nameL k)).size = k + 1 := by show (34 :: nameL k).length = _; simp [nameL_len]
          go_wp2_with fail
          clear q1 q2 q3 q4 q5 q6
          have hL3 := Lib.hid (lim3 k none hn1 hn2 (fun q e => by cases e) wr wr.heap.size 9 3 rfl)
          obtain ⟨W3, hW3⟩ : ∃ W3, ((wr.alloc (.cells #[.string (bs (nameL k)), .string (bs (numL none k)), .string (bs (34 :: (nameL k ++ [34])))] 9)).alloc (.cells #[.int .i64 0, .int .i64 1, .int .i64 2] 3)).alloc (.cells #[.int .i64 24, .int .i64 24, .int .i64 500] 3) = W3 := ⟨_, rfl⟩
          have hz3 : W3.heap.size = wr.heap.size + 1 + 1 + 1 := by rw [← hW3]; simp
          have hB3 : Below w1.heap.size w1 W3 := by rw [← hW3]; exact ((hB.alloc hB.size _).alloc (by simp; omega) _).alloc (by simp; omega) _
          simp only [hW3] at hL3
          rw [hW3]
          clear hW3 hB hN hM
          generalize wr.heap.size = T at hz hz3 hL3 ⊢
          go_loopw [12] (fun x wr2 => ∃ j : Nat, j ≤ 3 ∧ x = .int .i64 j ∧ Below W3.heap.size W3 wr2) (fun x _ => 3 - (intOf x).toNat)
          case atStart => exact ⟨0, by omega, rfl, Below.refl _ _⟩
          case round =>
            obtain ⟨j, hj, rfl, hB⟩ := hrel
            by_cases hlt : j < 3
            · obtain ⟨X, kd, ms, tx, x1, x2, x3, hXl, htl, htok, hsk, hm1, hm2⟩ := hL3.out j hlt
              have y1 := (hB.cell (p := ⟨T, j, none⟩) (by show T < _; omega)).trans x1
              have y2 := (hB.cell (p := ⟨T + 1, j, none⟩) (by show T + 1 < _; omega)).trans x2
              have y3 := (hB.cell (p := ⟨T + 1 + 1, j, none⟩) (by show T + 1 + 1 < _; omega)).trans x3
              have r1 := blank_left X
              have r2 := semi_right X
              have s1 : (bs X).size = X.length := rfl
              have s2 : (bs (32 :: X)).size = X.length + 1 := rfl
              have s3 : (bs (32 :: (X ++ [32, 59]))).size = X.length + 3 := by show (32 :: (X ++ [32, 59])).length = _; simp
              have hzr := hB.size
              by_cases hms : (k : Int) ≤ ms
              · rw [decide_eq_true hms] at htok
                have K1 := Lib.hid fun wx => scan_ok (bs (32 :: (X ++ [32, 59]))) wx (by omega) (by rw [bs_list]; exact (one_tok htok hsk).1 rfl)
                have HX : Hid ((([⟨kd, tx, 1⟩, ⟨3, [59], X.length + 2⟩, ⟨4, [], X.length + 3⟩] : List Tok)[0]?) = some ⟨kd, tx, 1⟩) := rfl
                have s5 : (bs tx).size = k := htl
                clear htok hsk s3 htl x1 x2 x3
                go_wp2_with (first | (go_at_call 10; ((with_reducible refine (K1.out _).mono ?_); rintro e4 w4 ⟨C4, c4, rfl, hT4, hb4⟩; have y2 := (hb4.cell (p := ⟨T + 1, j, none⟩) (by show T + 1 < _; omega)).trans y2; have y3 := (hb4.cell (p := ⟨T + 1 + 1, j, none⟩) (by show T + 1 + 1 < _; omega)).trans y3; obtain ⟨bq, oq, rfl, hbq, g0, g1, g2⟩ := hT4.tok HX.out)) | fail)
                have gj : 0 ≤ (j : Int) ∧ (j : Int) < 3 := by omega
                rw [Nat.zero_mul, Nat.add_zero] at g0 g1 g2
                go_quiet (fail)
                go_wp2_with fail
                go_roundw
                case rel => exact ⟨j + 1, by omega, by go_num, below_drewN (hB.trans (hb4.mono (by omega))) _⟩
                case measure => simp [intOf]; omega
              · rw [decide_eq_false hms] at htok
                have K1 := Lib.hid fun wx => scan_bad (bs (32 :: (X ++ [32, 59]))) wx (by omega) (by rw [bs_list]; exact (one_tok htok hsk).2 rfl)
                have hms : ms < (k : Int) := by omega
                clear htok hsk s3 htl x1 x2 x3
                go_wp2_with (first | (go_at_call 10; ((with_reducible refine (K1.out _).mono ?_); rintro e4 w4 ⟨rfl, hb4⟩; have y3 := (hb4.cell (p := ⟨T + 1 + 1, j, none⟩) (by show T + 1 + 1 < _; omega)).trans y3)) | fail)
                go_roundw
                case rel => exact ⟨j + 1, by omega, by go_num, hB.trans (hb4.mono (by omega))⟩
                case measure => simp [intOf]; omega
            · have hje : j = 3 := by omega
              subst hje
              have hmk2 := HM2.out
              go_wp2_with fail
              clear hmk2
              have hzr := hB.size
              obtain ⟨wo, rfl⟩ : ∃ wo, wo = wr := ⟨_, rfl⟩
              go_loopw [17] (fun x wr3 => ∃ q : Nat, q ≤ M ∧ x = .int .i64 q ∧ Arr wr3 wo.heap.size M (part (fun _ => 32) q) ∧ Below wo.heap.size wo wr3 ∧ wo.heap.size < wr3.heap.size) (fun x _ => M - (intOf x).toNat)
              case atStart => exact ⟨0, by omega, rfl, (Arr.made wo (.int .u8 0) M 5).congr (fun j _ => by simp [part]), (Below.refl _ _).alloc (Nat.le_refl _) _, by simp⟩
              case round =>
                obtain ⟨q, hq, rfl, hA, hC, hCz⟩ := hrel
                by_cases hlq : q < M
                · obtain ⟨c1, f1⟩ := hA q hlq
                  go_wp2_with fail
                  go_roundw
                  case rel => exact ⟨q + 1, by omega, by go_num, (hA.set hlq _).congr (fun j _ => part_set (fun _ => 32) q j), hC.setCell (p := ⟨wo.heap.size, q, none⟩) (Nat.le_refl _) _, by simpa using hCz⟩
                  case measure => simp [intOf]; omega
                · have hqe : q = M := by omega
                  subst hqe
                  have hA := hA.congr (fun j hj => part_all (fun _ => 32) hj)
                  obtain ⟨L, hL⟩ : ∃ L : List UInt8, L = List.replicate q 32 := ⟨_, rfl⟩
                  have hLl : L.length = q := by rw [hL]; simp
                  have K1 := Lib.hid fun wx => scan_ok (bs L) wx (by show L.length ≤ _; omega) (by rw [bs_list, hL]; exact blanks_sc q)
                  have hs1 : (bs L).size = q := hLl
                  have K2 := Lib.hid fun wx => scan_full (bs (L ++ [32])) wx (by show 65536 < (L ++ [32]).length; simp; omega) (by show (L ++ [32]).length ≤ _; simp; omega)
                  have r1 := bs_blank L
                  have v1 := conv_blank wr wo.heap.size q L hL hA
                  have HC := Lib.hid fun (wx : World) (hx : Below wr.heap.size wr wx) => conv_blank wx wo.heap.size q L hL (hA.below hx hCz)
                  clear hL hLl hA
                  go_wp2_with (first | (go_at_call 10; ((with_reducible refine (K1.out _).mono ?_); rintro e5 w5 ⟨C5, c5, rfl, hT5, hb5⟩; have v2 := HC.out w5 hb5)) | (go_at_call 10; ((with_reducible refine (K2.out _).mono ?_); rintro e6 w6 ⟨rfl, hb6⟩)) | fail)
                  go_ret
                  have z1 := hb1.size
                  have z2 := hB3.size
                  have z3 := hB.size
                  have z5 := hb5.size
                  exact ⟨rfl, ((((hb1.trans (hB3.mono z1)).trans (hB.mono (by omega))).trans (hC.mono (by omega))).trans (hb5.mono (by omega))).trans (hb6.mono (by omega))⟩
end Go.Proofs.Ytaemahhcacolgaa
