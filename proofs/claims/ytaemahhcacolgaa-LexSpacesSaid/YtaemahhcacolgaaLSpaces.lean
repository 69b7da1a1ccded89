/- The law LexSpaces, walked. -/
import Derived.Test.YtaemahhcacolgaaLS0
namespace Go.Proofs.Ytaemahhcacolgaa
open Go.RowKit LX
attribute [local go_sem] alloc_drewN setCell_drewN shape_drewN

theorem hash_left (t : ByteArray) : (⟨#[32, 35]⟩ : ByteArray) ++ t = bs (32 :: 35 :: t.data.toList) := by
  apply ByteArray.ext; rw [ByteArray.data_append]; simp [bs]
theorem hash_right (l : List UInt8) : bs (32 :: 35 :: l) ++ (⟨#[10]⟩ : ByteArray) = bs (32 :: 35 :: (l ++ [10])) := by
  apply ByteArray.ext; rw [ByteArray.data_append]; simp [bs]
def GapsAt (w : World) (g : Nat) (c : List UInt8) : Prop := ∀ (j : Nat) G, (gapsL c)[j]? = some G → w.cell? ⟨g, j, none⟩ = some (.string (bs G))
theorem gaps_new (w : World) (c : List UInt8) (e : Nat) : GapsAt (w.alloc (.cells #[.string ⟨#[32]⟩, .string ⟨#[9, 13]⟩, .string ⟨#[10]⟩, .string (bs (32 :: 35 :: (c ++ [10])))] e)) w.heap.size c := by
  intro j G hG
  rw [World.cell?_alloc_at _ _ _ _ rfl]
  match j with
  | 0 => obtain rfl : [32] = G := by simpa [gapsL] using hG
         rfl
  | 1 => obtain rfl : [9, 13] = G := by simpa [gapsL] using hG
         rfl
  | 2 => obtain rfl : [10] = G := by simpa [gapsL] using hG
         rfl
  | 3 => obtain rfl : 32 :: 35 :: (c ++ [10]) = G := by simpa [gapsL] using hG
         rfl
  | j + 4 => simp [gapsL] at hG
theorem mid_list (s : ByteArray) (p : Nat) (G : List UInt8) : ((s.extract 0 p ++ bs G) ++ s.extract p s.size).data.toList = s.data.toList.take p ++ G ++ s.data.toList.drop p := by
  rw [ByteArray.data_append, ByteArray.data_append]
  simp only [Array.toList_append]
  rw [ext_take, ext_drop, bs_list]
set_option maxRecDepth 100000 in
set_option maxHeartbeats 4000000 in
theorem spaces_any (s : ByteArray) (a : Int) (t : ByteArray) (w : World) (hs : s.size ≤ 9223372036854775807) (ht : t.size ≤ 9223372036854775807) :
    Calls Try.prog 5 #[.string s, .int .i64 a, .string t] w (TrueIs w) := by
  have K8 := Lib.hid fun wx => small_any wx
  by_cases h4 : s.size ≤ 2000
  case neg =>
    have h4' : (2000 : Int) < (s.size : Int) := by omega
    go_enter Try.func5, Try.ntmps5
    go_wp2_with (first | (go_at_call 8; ((with_reducible refine (K8.out _).mono ?_); rintro e1 w1 ⟨rfl, hb1⟩)) | fail)
    go_ret
    exact ⟨rfl, hb1⟩
  have h4' : ¬ (2000 : Int) < (s.size : Int) := by omega
  by_cases h5 : t.size ≤ 500
  case neg =>
    have h5' : (500 : Int) < (t.size : Int) := by omega
    go_enter Try.func5, Try.ntmps5
    go_wp2_with (first | (go_at_call 8; ((with_reducible refine (K8.out _).mono ?_); rintro e1 w1 ⟨rfl, hb1⟩)) | fail)
    go_ret
    exact ⟨rfl, hb1⟩
  have h5' : ¬ (500 : Int) < (t.size : Int) := by omega
  have hsz : s.data.size = s.size := rfl
  obtain ⟨ts, err, hsc⟩ := Sc.total s.size s.data.toList 0 (Nat.le_refl _)
  cases err with
  | some p =>
    have K1 := Lib.hid fun wx => scan_bad s wx (by omega) hsc
    clear hsc
    go_enter Try.func5, Try.ntmps5
    go_wp2_with (first | (go_at_call 8; ((with_reducible refine (K8.out _).mono ?_); rintro e1 w1 ⟨rfl, hb1⟩)) | (go_at_call 10; ((with_reducible refine (K1.out _).mono ?_); rintro e3 w3 ⟨rfl, hb3⟩)) | fail)
    go_ret
    exact ⟨rfl, hb1.trans (hb3.mono hb1.size)⟩
  | none =>
    have hln := (sc_len hsc).1
    simp only [Array.length_toList] at hln
    have K1 := Lib.hid fun wx => scan_ok s wx (by omega) hsc
    by_cases ha : 0 ≤ a ∧ a < (ts.length : Int)
    case neg =>
      clear hsc
      by_cases h0 : a < 0
      · go_enter Try.func5, Try.ntmps5
        go_wp2_with (first | (go_at_call 8; ((with_reducible refine (K8.out _).mono ?_); rintro e1 w1 ⟨rfl, hb1⟩)) | (go_at_call 10; ((with_reducible refine (K1.out _).mono ?_); rintro e2 w2 ⟨C2, c2, rfl, hT2, hb2⟩)) | fail)
        go_ret
        exact ⟨rfl, hb1.trans (hb2.mono hb1.size)⟩
      · have h1 : (ts.length : Int) ≤ a := by omega
        clear ha
        go_enter Try.func5, Try.ntmps5
        go_wp2_with (first | (go_at_call 8; ((with_reducible refine (K8.out _).mono ?_); rintro e1 w1 ⟨rfl, hb1⟩)) | (go_at_call 10; ((with_reducible refine (K1.out _).mono ?_); rintro e2 w2 ⟨C2, c2, rfl, hT2, hb2⟩)) | fail)
        go_ret
        exact ⟨rfl, hb1.trans (hb2.mono hb1.size)⟩
    obtain ⟨i, rfl⟩ : ∃ i : Nat, a = (i : Int) := ⟨a.toNat, by omega⟩
    have hi : i < ts.length := by omega
    obtain ⟨ti, hti⟩ : ∃ ti, ts[i]? = some ti := ⟨_, List.getElem?_eq_getElem hi⟩
    have hps := pos_le hsc
    simp only [Array.length_toList, Nat.zero_add] at hps
    have Hps := Lib.hid hps
    have Hti := Lib.hid hti
    have hti2 := hps ti (List.mem_of_getElem? hti)
    have Hsc : Hid (Sc s.data.toList 0 ts none) := hsc
    clear hsc hps hti ha
    go_enter Try.func5, Try.ntmps5
    go_wp2_with (first | (go_at_call 8; ((with_reducible refine (K8.out _).mono ?_); rintro e1 w1 ⟨rfl, hb1⟩)) | (go_at_call 10; ((with_reducible refine (K1.out _).mono ?_); rintro e2 w2 ⟨C2, c2, rfl, hT2, hb2⟩)) | fail)
    obtain ⟨bi, oi, hCi, hbi, i0, i1, i2⟩ := hT2.tok Hti.out
    have hB2 := hb1.trans (hb2.mono hb1.size)
    subst hCi
    clear hb1 hb2
    go_loop [11] (fun x => ∃ k : Nat, k ≤ ts.length ∧ x = .int .i64 k) (fun x => ts.length - (intOf x).toNat)
    case atStart => exact ⟨0, Nat.zero_le _, rfl⟩
    case round =>
      obtain ⟨k, hk, rfl⟩ := hrel
      by_cases hlt : k < ts.length
      · obtain ⟨tk, htk⟩ : ∃ tk, ts[k]? = some tk := ⟨_, List.getElem?_eq_getElem hlt⟩
        have htk2 := Hps.out tk (List.mem_of_getElem? htk)
        obtain ⟨bk, ok, hCk, hbk, k0, k1, k2⟩ := hT2.tok htk
        cases hCk
        clear htk
        go_wp2_with fail
        go_round
        case rel => exact ⟨k + 1, by omega, by go_num⟩
        case measure => simp [intOf]; omega
      · have hke : k = ts.length := by omega
        subst hke
        go_wp2_with fail
        go_loop [12] (fun x => ∃ k : Nat, k ≤ t.size ∧ x = .int .i64 k ∧ Hid (∀ x ∈ t.data.toList.take k, x ≠ 10)) (fun x => t.size - (intOf x).toNat)
        case atStart => exact ⟨0, Nat.zero_le _, rfl, fun x hx => by simp at hx⟩
        case round =>
          obtain ⟨k, hk, rfl, hno⟩ := hrel
          by_cases hlt : k < t.size
          · obtain ⟨c, hc⟩ : ∃ c : Int, (t[k].toNat : Int) = c := ⟨_, rfl⟩
            have htk : t.data.toList.take (k + 1) = t.data.toList.take k ++ [t[k]] := by rw [List.take_succ_eq_append_getElem (by simpa using hlt)]; rfl
            have hno' : c ≠ 10 → Hid (∀ x ∈ t.data.toList.take (k + 1), x ≠ 10) := fun hne x hx => by
              rw [htk] at hx
              rcases List.mem_append.1 hx with q | q
              · exact hno.out x q
              · obtain rfl : x = t[k] := by simpa using q
                exact fun e => hne (by rw [← hc, e]; rfl)
            clear hno htk
            by_cases g10 : c = 10
            · subst g10
              clear hno'
              go_wp2_with fail
              go_ret
              exact ⟨rfl, hB2⟩
            · have hno := hno' g10
              have q1 : (c == 10) = false := by rw [beq_eq_false_iff_ne]; exact g10
              clear hno' g10
              go_wp2_with fail
              go_round
              case rel => exact ⟨k + 1, by omega, by go_num, hno⟩
              case measure => simp [intOf]; omega
          · have hke : k = t.size := by omega
            have hnA : Hid (∀ x ∈ t.data.toList, x ≠ 10) := fun x hx => hno.out x (by rw [List.take_of_length_le (by subst hke; simp)]; exact hx)
            clear hno
            have r1 := hash_left t
            have r2 := hash_right t.data.toList
            have s1 : (bs (32 :: 35 :: t.data.toList)).size = t.size + 2 := by show (32 :: 35 :: t.data.toList).length = _; simp
            subst hke
            go_wp2_with fail
            clear r1 r2 s1
            have hG0 := gaps_new w2 t.data.toList 9
            have hI0 := hT2.tok Hti.out
            obtain ⟨w3, hw3⟩ : ∃ w3, w2.alloc (.cells #[.string ⟨#[32]⟩, .string ⟨#[9, 13]⟩, .string ⟨#[10]⟩, .string (bs (32 :: 35 :: (t.data.toList ++ [10])))] 9) = w3 := ⟨_, rfl⟩
            rw [hw3] at hG0
            have hB3 : Below w2.heap.size w2 w3 := by rw [← hw3]; exact (Below.refl _ _).alloc (Nat.le_refl _) _
            have hz3 : w3.heap.size = w2.heap.size + 1 := by rw [← hw3]; simp
            rw [hw3]
            clear hw3 hI0 i0 i1 i2
            go_loopw [15] (fun x wr => ∃ k : Nat, k ≤ 4 ∧ x = .int .i64 k ∧ Below w3.heap.size w3 wr) (fun x _ => 4 - (intOf x).toNat)
            case atStart => exact ⟨0, by omega, rfl, Below.refl _ _⟩
            case round =>
              obtain ⟨k, hk, rfl, hB⟩ := hrel
              by_cases hlt : k < 4
              case neg =>
                have hke : k = 4 := by omega
                subst hke
                go_wp2_with fail
                go_ret
                exact ⟨rfl, hB2.trans ((hB3.trans (hB.mono (by omega))).mono hB2.size)⟩
              obtain ⟨G, hGk⟩ : ∃ G, (gapsL t.data.toList)[k]? = some G := ⟨_, List.getElem?_eq_getElem (by simpa [gapsL] using hlt)⟩
              have hGm := List.mem_of_getElem? hGk
              have hgl := gaps_len _ hGm
              simp only [Array.length_toList] at hgl
              have htz : t.data.size = t.size := rfl
              have hck := (hB.cell (p := ⟨w2.heap.size, k, none⟩) (by show w2.heap.size < _; omega)).trans (hG0 k G hGk)
              have z1 : (s.extract 0 ti.pos).size = ti.pos := by rw [ByteArray.size_extract]; omega
              have z2 : (bs G).size = G.length := rfl
              have z3 : (s.extract 0 ti.pos ++ bs G).size = ti.pos + G.length := by rw [ByteArray.size_append, z1, z2]
              have z4 : (s.extract ti.pos s.size).size = s.size - ti.pos := by rw [ByteArray.size_extract]; omega
              have z5 : ((s.extract 0 ti.pos ++ bs G) ++ s.extract ti.pos s.size).size = s.size + G.length := by rw [ByteArray.size_append, z3, z4]; omega
              have hmid := mid_list s ti.pos G
              obtain ⟨bi2, oi2, hCi2, hbi2, i0, i1, i2⟩ := (hT2.below (hB3.trans (hB.mono (by omega)))).tok Hti.out
              cases hCi2
              by_cases hkc : ti.kind = 4 ∧ opn false (s.data.toList.drop (fromN ts)) = true
              · obtain ⟨us, er, hsp⟩ := Sc.total ((s.extract 0 ti.pos ++ bs G) ++ s.extract ti.pos s.size).size ((s.extract 0 ti.pos ++ bs G) ++ s.extract ti.pos s.size).data.toList 0 (Nat.le_refl _)
                cases er with
                | none =>
                  have K2 := Lib.hid fun wx => scan_ok ((s.extract 0 ti.pos ++ bs G) ++ s.extract ti.pos s.size) wx (by omega) hsp
                  clear hsp hmid hGm
                  have hGk := Lib.hid hGk
                  have hk4 := hkc.1
                  have hopn := hkc.2
                  clear hkc
                  go_wp2_with fail
                  have hq1 : 0 ≤ (ti.pos : Int) := by omega
                  have hq2 : (ti.pos : Int) ≤ (s.size : Int) := by omega
                  have hzr := hB.size
                  have n1 : ¬ ((9223372036854775807 : Int) < (ti.pos : Int) + (G.length : Int)) := by omega
                  have n2 : ¬ ((9223372036854775807 : Int) < (ti.pos : Int) + (G.length : Int) + ((s.size - ti.pos : Nat) : Int)) := by omega
                  have n3 : ¬ (9223372036854775807 < ti.pos + G.length) := by omega
                  have n4 : ¬ (9223372036854775807 < ti.pos + G.length + (s.size - ti.pos)) := by omega
                  go_region_held3 (fun w' => w'.cell? ⟨w2.heap.size, k, none⟩ = some (.string (bs G))) (first | go_keep | exact (hb4.cell (p := ⟨w2.heap.size, k, none⟩) (by simp; omega)).trans hck) (first | (go_at_call 10; ((with_reducible refine (K2.out _).mono ?_); rintro e4 w4 ⟨C4, c4, rfl, hT4, hb4⟩)))
                  clear n1 n2 n3 n4 z1 z2 z3 z4 z5 hck i0 i1 i2
                  have hb4 : Below wr.heap.size wr w4 := (Below.refl wr.heap.size wr).drew.trans hb4
                  have hB4 : Below w3.heap.size w3 w4 := hB.trans (hb4.mono hB.size)
                  have KC := comments_any s (some ⟨bi, oi, none⟩) c2 ts w4 (by omega) (hT2.below (hB3.trans (hB4.mono (by omega)))) (by have := hB4.size; omega) (by omega) (by have := from_le Hsc.out; have := Hsc.out.lastEnd_le; simp at this; omega)
                  unfold ComIs at KC
                  rw [hopn] at KC
                  have KC := Lib.hid KC
                  obtain ⟨bi4, oi4, hCi4, hbi4, i0, i1, i2⟩ := (hT2.below (hB3.trans (hB4.mono (by omega)))).tok Hti.out
                  cases hCi4
                  rw [hk4] at i0
                  clear hopn hk4
                  go_wp2_with (first | (go_at_call 15; ((with_reducible refine KC.out.mono ?_); rintro e5 w5 ⟨rfl, hb5⟩; have hB5 : Below w3.heap.size w3 w5 := hB4.trans (hb5.mono hB4.size))) | fail)
                  go_roundw
                  case rel => exact ⟨k + 1, by omega, by go_num, hB5⟩
                  case measure => simp [intOf]; omega
                | some p =>
                  have K2 := Lib.hid fun wx => scan_bad ((s.extract 0 ti.pos ++ bs G) ++ s.extract ti.pos s.size) wx (by omega) hsp
                  clear hsp hmid hGm
                  have hGk := Lib.hid hGk
                  have hk4 := hkc.1
                  have hopn := hkc.2
                  clear hkc
                  go_wp2_with fail
                  have hq1 : 0 ≤ (ti.pos : Int) := by omega
                  have hq2 : (ti.pos : Int) ≤ (s.size : Int) := by omega
                  have hzr := hB.size
                  have n1 : ¬ ((9223372036854775807 : Int) < (ti.pos : Int) + (G.length : Int)) := by omega
                  have n2 : ¬ ((9223372036854775807 : Int) < (ti.pos : Int) + (G.length : Int) + ((s.size - ti.pos : Nat) : Int)) := by omega
                  have n3 : ¬ (9223372036854775807 < ti.pos + G.length) := by omega
                  have n4 : ¬ (9223372036854775807 < ti.pos + G.length + (s.size - ti.pos)) := by omega
                  go_region_held3 (fun w' => w'.cell? ⟨w2.heap.size, k, none⟩ = some (.string (bs G))) (first | go_keep | exact (hb4.cell (p := ⟨w2.heap.size, k, none⟩) (by simp; omega)).trans hck) (first | (go_at_call 10; ((with_reducible refine (K2.out _).mono ?_); rintro e4 w4 ⟨rfl, hb4⟩)))
                  clear n1 n2 n3 n4 z1 z2 z3 z4 z5 hck i0 i1 i2
                  have hb4 : Below wr.heap.size wr w4 := (Below.refl wr.heap.size wr).drew.trans hb4
                  have hB4 : Below w3.heap.size w3 w4 := hB.trans (hb4.mono hB.size)
                  have KC := comments_any s (some ⟨bi, oi, none⟩) c2 ts w4 (by omega) (hT2.below (hB3.trans (hB4.mono (by omega)))) (by have := hB4.size; omega) (by omega) (by have := from_le Hsc.out; have := Hsc.out.lastEnd_le; simp at this; omega)
                  unfold ComIs at KC
                  rw [hopn] at KC
                  have KC := Lib.hid KC
                  obtain ⟨bi4, oi4, hCi4, hbi4, i0, i1, i2⟩ := (hT2.below (hB3.trans (hB4.mono (by omega)))).tok Hti.out
                  cases hCi4
                  rw [hk4] at i0
                  clear hopn hk4
                  go_wp2_with (first | (go_at_call 15; ((with_reducible refine KC.out.mono ?_); rintro e5 w5 ⟨rfl, hb5⟩; have hB5 : Below w3.heap.size w3 w5 := hB4.trans (hb5.mono hB4.size))) | fail)
                  go_roundw
                  case rel => exact ⟨k + 1, by omega, by go_num, hB5⟩
                  case measure => simp [intOf]; omega
              · have hsp := spaces Hsc.out hnA.out hGm Hti.out (fun q => by
                  cases hq : opn false (s.data.toList.drop (fromN ts))
                  · rfl
                  · exact absurd ⟨q, hq⟩ hkc)
                have K2 := Lib.hid fun wx => scan_ok ((s.extract 0 ti.pos ++ bs G) ++ s.extract ti.pos s.size) wx (by omega) (by rw [hmid]; exact hsp)
                clear hsp hmid hGm
                have hGk := Lib.hid hGk
                go_wp2_with fail
                have hq1 : 0 ≤ (ti.pos : Int) := by omega
                have hq2 : (ti.pos : Int) ≤ (s.size : Int) := by omega
                have hzr := hB.size
                have n1 : ¬ ((9223372036854775807 : Int) < (ti.pos : Int) + (G.length : Int)) := by omega
                have n2 : ¬ ((9223372036854775807 : Int) < (ti.pos : Int) + (G.length : Int) + ((s.size - ti.pos : Nat) : Int)) := by omega
                have n3 : ¬ (9223372036854775807 < ti.pos + G.length) := by omega
                have n4 : ¬ (9223372036854775807 < ti.pos + G.length + (s.size - ti.pos)) := by omega
                go_region_held3 (fun w' => w'.cell? ⟨w2.heap.size, k, none⟩ = some (.string (bs G))) (first | go_keep | exact (hb4.cell (p := ⟨w2.heap.size, k, none⟩) (by simp; omega)).trans hck) (first | (go_at_call 10; ((with_reducible refine (K2.out _).mono ?_); rintro e4 w4 ⟨C4, c4, rfl, hT4, hb4⟩)))
                clear n1 n2 n3 n4 z1 z2 z3 z4 z5 hck i0 i1 i2
                have hb4 : Below wr.heap.size wr w4 := (Below.refl wr.heap.size wr).drew.trans hb4
                have hB4 : Below w3.heap.size w3 w4 := hB.trans (hb4.mono hB.size)
                have HiL : Hid ((insT i G.length ts).length = ts.length) := insT_len _ _ _
                by_cases hk4 : ti.kind = 4
                · have hopn : opn false (s.data.toList.drop (fromN ts)) = false := by
                    cases hq : opn false (s.data.toList.drop (fromN ts))
                    · rfl
                    · exact absurd ⟨hk4, hq⟩ hkc
                  have KC := comments_any s (some ⟨bi, oi, none⟩) c2 ts w4 (by omega) (hT2.below (hB3.trans (hB4.mono (by omega)))) (by have := hB4.size; omega) (by omega) (by have := from_le Hsc.out; have := Hsc.out.lastEnd_le; simp at this; omega)
                  unfold ComIs at KC
                  rw [hopn] at KC
                  have KC := Lib.hid KC
                  obtain ⟨bi4, oi4, hCi4, hbi4, i0, i1, i2⟩ := (hT2.below (hB3.trans (hB4.mono (by omega)))).tok Hti.out
                  cases hCi4
                  rw [hk4] at i0
                  clear hopn hkc hk4
                  go_wp2_with (first | (go_at_call 15; ((with_reducible refine KC.out.mono ?_); rintro e5 w5 ⟨rfl, hb5⟩; have hB5 : Below w3.heap.size w3 w5 := hB4.trans (hb5.mono hB4.size); have KS := Lib.hid (same_false (c := c2) (d := c4) (insT_same i G.length ts) (hT2.below (hB3.trans (hB5.mono (by omega)))) (hT4.below hb5) (by omega)))) | (go_at_call 12; ((with_reducible refine KS.out.mono ?_); rintro e6 w6 ⟨rfl, hb6⟩)) | fail)
                  have hBw : Below w3.heap.size w3 w6 := hB5.trans (hb6.mono hB5.size)
                  have hT2w := hT2.below (hB3.trans (hBw.mono (by omega)))
                  have hT4w := hT4.below (hb5.trans (hb6.mono hb5.size))
                  have hgw := (hBw.cell (p := ⟨w2.heap.size, k, none⟩) (by show w2.heap.size < _; omega)).trans (hG0 k G hGk.out)
                  clear hb5 hb6 KS KC i0 i1 i2 hT4
                  go_loop [19] (fun x => ∃ n : Nat, n ≤ ts.length ∧ x = .int .i64 n) (fun x => ts.length - (intOf x).toNat)
                  case atStart => exact ⟨0, Nat.zero_le _, rfl⟩
                  case round =>
                    obtain ⟨n, hn, rfl⟩ := hrel
                    by_cases hln : n < ts.length
                    · obtain ⟨tn, htn⟩ : ∃ tn, ts[n]? = some tn := ⟨_, List.getElem?_eq_getElem hln⟩
                      have htn2 := Hps.out tn (List.mem_of_getElem? htn)
                      obtain ⟨bn, on_, hCn, hbn, k0, k1, k2⟩ := hT2w.tok htn
                      cases hCn
                      obtain ⟨bm, om, rfl, hbm, m0, m1, m2⟩ := hT4w.tok (insT_get i G.length n ts tn htn)
                      have hinl := HiL.out
                      by_cases hin : i ≤ n
                      · rw [if_pos hin] at m2
                        have M2 : w6.cell? ⟨bm, om + n * 3 + 2, none⟩ = some (.int .i64 ((tn.pos : Int) + (G.length : Int))) := by rw [m2]; simp [Tok.shift]
                        have z2 : (bs G).size = G.length := rfl
                        clear m2
                        clear htn m0 m1
                        rw [hinl]
                        clear hinl
                        go_wp2_with fail
                        go_round
                        case rel => exact ⟨n + 1, by omega, by go_num⟩
                        case measure => simp [intOf]; omega
                      · rw [if_neg hin] at m2
                        have hin2 : decide (i ≤ n) = false := decide_eq_false hin
                        have hin3 : n < i := by omega
                        clear htn m0 m1
                        rw [hinl]
                        clear hinl
                        go_wp2_with fail
                        go_round
                        case rel => exact ⟨n + 1, by omega, by go_num⟩
                        case measure => simp [intOf]; omega
                    · have hne : n = ts.length := by omega
                      subst hne
                      go_wp2_with fail
                      go_roundw
                      case rel => exact ⟨k + 1, by omega, by go_num, hBw⟩
                      case measure => simp [intOf]; omega
                · have q4 : (ti.kind == 4) = false := by rw [beq_eq_false_iff_ne]; exact hk4
                  have KS := Lib.hid (same_false (c := c2) (d := c4) (insT_same i G.length ts) (hT2.below (hB3.trans (hB4.mono (by omega)))) hT4 (by omega))
                  obtain ⟨bi4, oi4, hCi4, hbi4, i0, i1, i2⟩ := (hT2.below (hB3.trans (hB4.mono (by omega)))).tok Hti.out
                  cases hCi4
                  clear hkc hk4
                  go_wp2_with (first | (go_at_call 12; ((with_reducible refine KS.out.mono ?_); rintro e6 w6 ⟨rfl, hb6⟩)) | fail)
                  have hBw : Below w3.heap.size w3 w6 := hB4.trans (hb6.mono hB4.size)
                  have hT2w := hT2.below (hB3.trans (hBw.mono (by omega)))
                  have hT4w := hT4.below hb6
                  have hgw := (hBw.cell (p := ⟨w2.heap.size, k, none⟩) (by show w2.heap.size < _; omega)).trans (hG0 k G hGk.out)
                  clear hb6 KS i0 i1 i2 hT4
                  go_loop [19] (fun x => ∃ n : Nat, n ≤ ts.length ∧ x = .int .i64 n) (fun x => ts.length - (intOf x).toNat)
                  case atStart => exact ⟨0, Nat.zero_le _, rfl⟩
                  case round =>
                    obtain ⟨n, hn, rfl⟩ := hrel
                    by_cases hln : n < ts.length
                    · obtain ⟨tn, htn⟩ : ∃ tn, ts[n]? = some tn := ⟨_, List.getElem?_eq_getElem hln⟩
                      have htn2 := Hps.out tn (List.mem_of_getElem? htn)
                      obtain ⟨bn, on_, hCn, hbn, k0, k1, k2⟩ := hT2w.tok htn
                      cases hCn
                      obtain ⟨bm, om, rfl, hbm, m0, m1, m2⟩ := hT4w.tok (insT_get i G.length n ts tn htn)
                      have hinl := HiL.out
                      by_cases hin : i ≤ n
                      · rw [if_pos hin] at m2
                        have M2 : w6.cell? ⟨bm, om + n * 3 + 2, none⟩ = some (.int .i64 ((tn.pos : Int) + (G.length : Int))) := by rw [m2]; simp [Tok.shift]
                        have z2 : (bs G).size = G.length := rfl
                        clear m2
                        clear htn m0 m1
                        rw [hinl]
                        clear hinl
                        go_wp2_with fail
                        go_round
                        case rel => exact ⟨n + 1, by omega, by go_num⟩
                        case measure => simp [intOf]; omega
                      · rw [if_neg hin] at m2
                        have hin2 : decide (i ≤ n) = false := decide_eq_false hin
                        have hin3 : n < i := by omega
                        clear htn m0 m1
                        rw [hinl]
                        clear hinl
                        go_wp2_with fail
                        go_round
                        case rel => exact ⟨n + 1, by omega, by go_num⟩
                        case measure => simp [intOf]; omega
                    · have hne : n = ts.length := by omega
                      subst hne
                      go_wp2_with fail
                      go_roundw
                      case rel => exact ⟨k + 1, by omega, by go_num, hBw⟩
                      case measure => simp [intOf]; omega
end Go.Proofs.Ytaemahhcacolgaa
