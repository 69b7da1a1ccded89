/- The law LexBack, walked. -/
import Derived.Test.YtaemahhcacolgaaLFails
import Derived.Test.YtaemahhcacolgaaLTells
import Derived.Test.YtaemahhcacolgaaLX5
namespace Go.Proofs.Ytaemahhcacolgaa
open Go.RowKit LX

theorem ToksAt.tok {w : World} {B : Nat} {C : Option Addr} {ts : List Tok} (h : ToksAt w B C (ts.map mt)) {k : Nat} {t : Tok} (hk : ts[k]? = some t) : ∃ b off, C = some ⟨b, off, none⟩ ∧ b < B ∧
    w.cell? ⟨b, off + k * 3, none⟩ = some (.int .i64 t.kind) ∧ w.cell? ⟨b, off + k * 3 + 1, none⟩ = some (.string (bs t.text)) ∧ w.cell? ⟨b, off + k * 3 + 2, none⟩ = some (.int .i64 (t.pos : Int)) := by
  have hlt : k < (ts.map mt).length := by simpa using (List.getElem?_eq_some_iff.1 hk).1
  obtain ⟨b, off, x, y, z, e, hb, ha, c0, c1, c2⟩ := h.at_ hlt
  have ha := ha.out
  rw [List.getElem?_map, hk] at ha
  have ha : (t.kind, t.text, (t.pos : Int)) = (x, y, z) := Option.some.inj ha
  injection ha with h1 h2
  injection h2 with h2 h3
  subst h1 h2 h3
  exact ⟨b, off, e, hb, c0, c1, c2⟩
theorem wrO_congr {t u : Tok} (h : (t.kind, t.text) = (u.kind, u.text)) : wrO t = wrO u := by
  injection h with h1 h2
  unfold wrO; rw [h1, h2]
theorem writeL_congr {ts us : List Tok} (h : us.map (fun t => (t.kind, t.text)) = ts.map (fun t => (t.kind, t.text))) : writeL us = writeL ts := by
  unfold writeL
  congr 1
  induction ts generalizing us with
  | nil => rw [List.map_nil] at h; rw [List.map_eq_nil_iff.1 h]
  | cons t ts ih =>
    cases us with
    | nil => cases h
    | cons u us =>
      simp only [List.map_cons, List.cons.injEq] at h
      have h1 := wrO_congr h.1
      have h2 := ih h.2
      simp only [List.filterMap_cons, h1, h2]
theorem same_false {C D : Option Addr} {c d : Nat} {ts us : List Tok} {w : World} {M N : Nat} (h : us.map (fun t => (t.kind, t.text)) = ts.map (fun t => (t.kind, t.text))) (h1 : ToksAt w M C (ts.map mt)) (h2 : ToksAt w N D (us.map mt)) (hl : ts.length ≤ 100000) :
    Calls Try.prog 12 #[.slice C ts.length c, .slice D us.length d, .bool false] w (TrueIs w) := by
  have hm : (ts.map mt).length = ts.length := by simp
  have hm2 : (us.map mt).length = us.length := by simp
  have hlen : us.length = ts.length := by simpa using congrArg List.length h
  have := same_any C D c d (ts.map mt) (us.map mt) false w h1 h2 (by omega) (by omega)
  rw [hm, hm2] at this
  refine this.mono ?_
  rintro e w' ⟨rfl, hb⟩
  refine ⟨ret_bool (sameT_yes (by omega) fun k s t h1 h2 => ?_), hb⟩
  rw [List.getElem?_map] at h1 h2
  have hk := congrArg (fun l : List (Int × List UInt8) => l[k]?) h
  simp only [List.getElem?_map] at hk
  cases ha : ts[k]? with
  | none => rw [ha] at h1; cases h1
  | some a =>
    cases hb : us[k]? with
    | none => rw [hb] at h2; cases h2
    | some b =>
      rw [ha] at h1 hk
      rw [hb] at h2 hk
      obtain rfl : mt a = s := by simpa using h1
      obtain rfl : mt b = t := by simpa using h2
      simp only [Option.map_some, Option.some.injEq, Prod.mk.injEq] at hk
      simp [pr, mt, hk.1, hk.2]
set_option maxRecDepth 100000 in
set_option maxHeartbeats 4000000 in
theorem back_any (s : ByteArray) (w : World) (hs : s.size ≤ 9223372036854775807) :
    Calls Try.prog 4 #[.string s] w (TrueIs w) := by
  have K8 := Lib.hid fun wx => small_any wx
  by_cases h4 : s.size ≤ 4000
  case neg =>
    have h4' : (4000 : Int) < (s.size : Int) := by omega
    go_enter Try.func4, Try.ntmps4
    go_wp2_with (first | (go_at_call 8; ((with_reducible refine (K8.out _).mono ?_); rintro e1 w1 ⟨rfl, hb1⟩)) | fail)
    go_ret
    exact ⟨rfl, hb1⟩
  have h4' : ¬ (4000 : Int) < (s.size : Int) := by omega
  have hsz : s.data.size = s.size := rfl
  obtain ⟨ts, err, hsc⟩ := Sc.total s.size s.data.toList 0 (Nat.le_refl _)
  cases err with
  | some p =>
    obtain ⟨k, hk, hlt, _⟩ := hsc.cut
    obtain rfl : p = k := by omega
    simp only [Array.length_toList] at hlt
    have hlt : p < s.size := hlt
    have K1 := Lib.hid fun wx => scan_bad s wx (by omega) hsc
    clear hsc hk
    go_enter Try.func4, Try.ntmps4
    go_wp2_with (first | (go_at_call 8; ((with_reducible refine (K8.out _).mono ?_); rintro e1 w1 ⟨rfl, hb1⟩)) | (go_at_call 10; ((with_reducible refine (K1.out _).mono ?_); rintro e3 w3 ⟨rfl, hb3⟩)) | fail)
    go_ret
    exact ⟨rfl, hb1.trans (hb3.mono hb1.size)⟩
  | none =>
    obtain ⟨us, hu, hus⟩ := hsc.back
    have hln := (sc_len hsc).1
    have hsum := back_len hsc
    have hwl := wlen hsum
    have htx := text_len hsc
    have hlast := hsc.last
    simp only [Array.length_toList] at hln hwl htx hsum hlast
    have hul : us.length = ts.length := by simpa using congrArg List.length hus
    have hwu := writeL_congr hus
    have hpos : 0 < ts.length := List.length_pos_iff.2 hsc.ne_nil
    have hbsz : (bs (writeL ts)).size = (writeL ts).length := rfl
    have K1 := Lib.hid fun wx => scan_ok s wx (by omega) hsc
    have K2 := Lib.hid fun wx => scan_ok (bs (writeL ts)) wx (by omega) (by rw [bs_list]; exact hu)
    have hmM : ∀ l : List Tok, (l.map mt).length = l.length := fun l => by simp
    have htx2 : ∀ t ∈ us.map mt, t.2.1.length ≤ 1000000 := by
      intro t ht
      obtain ⟨u, hu', rfl⟩ := List.mem_map.1 ht
      have := text_len hu u hu'
      show u.text.length ≤ _
      omega
    have KW1 := Lib.hid fun (wx wy : World) (C : Option Addr) (c : Nat) (hT : ToksAt wy wy.heap.size C (ts.map mt)) (hy : Below wy.heap.size wy wx) => (show Calls Try.prog 13 #[.slice C ts.length c] wx (fun e w' => e = .returned (.string (bs (writeL ts))) ∧ Below wx.heap.size wx w') from by
      have := write_any C c (ts.map mt) wx (hT.below hy) hy.size (by rw [hmM]; omega) (by
        intro t ht
        obtain ⟨u, hu', rfl⟩ := List.mem_map.1 ht
        have := htx u hu'
        show u.text.length ≤ _
        omega) (by rw [writeM_mt]; omega)
      unfold WriteIs at this
      rw [hmM, writeM_mt] at this
      exact this)
    have KW2 := Lib.hid fun (wx wy : World) (C : Option Addr) (c : Nat) (hT : ToksAt wy wy.heap.size C (us.map mt)) (hy : Below wy.heap.size wy wx) => (show Calls Try.prog 13 #[.slice C us.length c] wx (fun e w' => e = .returned (.string (bs (writeL ts))) ∧ Below wx.heap.size wx w') from by
      have := write_any C c (us.map mt) wx (hT.below hy) hy.size (by rw [hmM]; omega) htx2 (by rw [writeM_mt, hwu]; omega)
      unfold WriteIs at this
      rw [hmM, writeM_mt, hwu] at this
      exact this)
    have Hsc : Hid (Sc s.data.toList 0 ts none) := hsc
    have Hus := Lib.hid hus
    have Hlast : Hid (ts[ts.length - 1]? = some ⟨4, [], s.size⟩) := by show _ = _; rw [hlast]; congr 2; omega
    have hl0 : ((ts.length : Int) == 0) = false := by rw [beq_eq_false_iff_ne]; omega
    clear hsc hus hu hwu htx htx2 hmM hlast hwl hbsz hul
    go_enter Try.func4, Try.ntmps4
    go_wp2_with (first | (go_at_call 8; ((with_reducible refine (K8.out _).mono ?_); rintro e1 w1 ⟨rfl, hb1⟩)) | (go_at_call 10; ((with_reducible refine (K1.out _).mono ?_); rintro e2 w2 ⟨C2, c2, rfl, hT2, hb2⟩)) | (go_at_call 13; ((with_reducible refine (KW1.out _ w2 _ _ hT2 (Below.refl _ _)).mono ?_); rintro e3 w3 ⟨rfl, hb3⟩)) | (go_at_call 10; ((with_reducible refine (K2.out _).mono ?_); rintro e4 w4 ⟨C4, c4, rfl, hT4, hb4⟩; have hb24 : Below w2.heap.size w2 w4 := hb3.trans (hb4.mono hb3.size); have KS := Lib.hid (same_false (c := c2) (d := c4) Hus.out (hT2.below hb24) hT4 (by omega)))) | (go_at_call 12; ((with_reducible refine KS.out.mono ?_); rintro e5 w5 ⟨rfl, hb5⟩)) | (go_at_call 13; ((with_reducible refine (KW2.out _ w4 _ _ hT4 hb5).mono ?_); rintro e6 w6 ⟨rfl, hb6⟩)) | fail)
    have hb26 : Below w2.heap.size w2 w6 := (hb24.trans (hb5.mono hb24.size)).trans (hb6.mono (Nat.le_trans hb24.size hb5.size))
    have hT6 := hT2.below hb26
    have hB6 : Below w.heap.size w w6 := (hb1.trans (hb2.mono hb1.size)).trans (hb26.mono (Nat.le_trans hb1.size hb2.size))
    have hB26 := hb26.size
    clear hT2 hT4 KS KW1 KW2 hb1 hb2 hb3 hb4 hb5 hb6 hb24 hb26 K1 K2 K8
    go_loopw [11, 12] (fun e i wr => ∃ k a : Nat, k ≤ ts.length ∧ a ≤ s.size ∧ e = .int .i64 a ∧ i = .int .i64 k ∧ Hid (k < ts.length → Sc (s.data.toList.drop a) a (ts.drop k) none) ∧ Hid (k = ts.length → a = s.size) ∧ Below w6.heap.size w6 wr) (fun _ i _ => ts.length - (intOf i).toNat)
    case atStart => exact ⟨0, 0, by omega, Nat.zero_le _, rfl, rfl, fun _ => Hsc.out, fun h => absurd h (by omega), Below.refl _ _⟩
    case round =>
      obtain ⟨k, a, hk, ha, rfl, rfl, hS, hE, hB⟩ := hrel
      by_cases hlt : k < ts.length
      · obtain ⟨t, rest, hd, hrest⟩ : ∃ t rest, ts.drop k = t :: rest ∧ rest = ts.drop (k + 1) := ⟨ts[k], ts.drop (k + 1), List.drop_eq_getElem_cons hlt, rfl⟩
        have hS := hS.out hlt
        rw [hd] at hS
        have hst := hS.step (by simp; omega)
        have htk : ts[k]? = some t := by have := congrArg (fun l : List Tok => l[0]?) hd; simpa using this
        obtain ⟨b, off, rfl, hb, c0, c1, c2⟩ := (hT6.below (hB.mono hB26)).tok htk
        obtain ⟨kd, y, p⟩ := t
        obtain ⟨hlo, hhi, htxt, hkd, hfin, hne, hgap, hla, hnx⟩ := hst
        simp only [Array.length_toList] at hhi hla
        have hlo : a ≤ p := hlo
        have hrl : rest.length = ts.length - (k + 1) := by rw [hrest]; simp
        have E1 : s.extract p (p + (LX.wr ⟨kd, y, p⟩).length) = bs (LX.wr ⟨kd, y, p⟩) := by
          rw [ext_bs, show p + (LX.wr ⟨kd, y, p⟩).length - p = (LX.wr ⟨kd, y, p⟩).length by omega]
          exact congrArg bs htxt
        have K7 := Lib.hid fun wx => scan_ok (s.extract a p) wx (by have := ext_size s a p; omega) (by rw [ext_bs, bs_list]; exact hgap)
        have hn' : k + 1 < ts.length → Hid (Sc (s.data.toList.drop (p + (LX.wr ⟨kd, y, p⟩).length)) (p + (LX.wr ⟨kd, y, p⟩).length) (ts.drop (k + 1)) none) := fun h => by
          show Sc _ _ _ _
          rw [← hrest]; exact hnx (fun q => by rw [q] at hrl; simp at hrl; omega)
        have hla' : Hid (k + 1 = ts.length → p = s.size ∧ y = []) := fun h => hla (List.eq_nil_of_length_eq_zero (by omega))
        have hfk : kd = 4 ↔ k + 1 = ts.length := by
          rw [show kd = 4 ↔ rest = [] from hfin]
          constructor
          · intro q; rw [q] at hrl; simp at hrl; omega
          · intro q; exact List.eq_nil_of_length_eq_zero (by omega)
        have hhi : p + (LX.wr ⟨kd, y, p⟩).length ≤ s.size := hhi
        have hne : kd ≠ 4 → LX.wr ⟨kd, y, p⟩ ≠ [] := hne
        have hkd : 0 ≤ kd ∧ kd ≤ 4 := hkd
        clear hd hS htk hgap hla hnx hrest hrl hfin htxt
        have s1 : (bs y).size = y.length := rfl
        by_cases k4 : kd = 4
        · have hk1 := hfk.1 k4
          obtain ⟨rfl, rfl⟩ := hla'.out hk1
          subst k4
          have w0 : LX.wr ⟨4, [], s.size⟩ = [] := rfl
          rw [w0] at E1
          have E1 : s.extract s.size s.size = bs [] := E1
          have s1 : (bs []).size = 0 := rfl
          have t1 : (bs []).toList = [] := by rw [ByteArray.toList_eq, bs_list]
          have q1 : ((k : Int) == (ts.length : Int) - 1) = true := by rw [beq_iff_eq]; omega
          clear w0 hfk hn' hne
          have hbs := hB.size
          go_wp2_with (first | (go_at_call 10; ((with_reducible refine (K7.out _).mono ?_); rintro e7 w7 ⟨C7, c7, rfl, hT7, hb7⟩; obtain ⟨hc7, hf7⟩ := bcell hb7; have hz7 := hb7.size; rw [World.size_alloc] at hz7)) | fail)
          go_roundw
          case rel => exact ⟨k + 1, s.size, by omega, by omega, by go_num, by go_num, fun h => absurd h (by omega), fun _ => rfl, hB.trans (((Below.refl _ _).alloc hbs _).trans (hb7.mono (by simp; omega)))⟩
          case measure => simp [intOf]; omega
        · have hk1 : k + 1 < ts.length := by have : ¬ (k + 1 = ts.length) := fun q => k4 (hfk.2 q); omega
          have hn' := hn' hk1
          have hne := hne k4
          clear hla' hfk
          by_cases k2 : kd = 2
          · subst k2
            have w0 : LX.wr ⟨2, y, p⟩ = 34 :: (y ++ [34]) := rfl
            rw [w0] at E1 hn' hhi
            have w1 : (34 :: (y ++ [34]) : List UInt8).length = y.length + 2 := by simp
            rw [w1] at E1 hn' hhi
            have d1 : decide ((s.size : Int) < (p : Int) + ((y.length : Int) + 2)) = false := decide_eq_false (by omega)
            have d2 : decide (p < a) = false := decide_eq_false (by omega)
            have t1 : (bs (34 :: (y ++ [34]))).toList.isEmpty = false := by rw [ByteArray.toList_eq, bs_list]; rfl
            have t2 : (bs (34 :: (y ++ [34]))).toList ≠ [] := by rw [ByteArray.toList_eq, bs_list]; simp
            have s2 : (bs (34 :: y)).size = y.length + 1 := rfl
            have s3 : (bs (34 :: (y ++ [34]))).size = y.length + 2 := w1
            have r1 := quote_left y
            have r2 := quote_right y
            have q1 : ((k : Int) == (ts.length : Int) - 1) = false := by rw [beq_eq_false_iff_ne]; omega
            clear w0 w1 hne
            have hbs := hB.size
            go_wp2_with (first | (go_at_call 10; ((with_reducible refine (K7.out _).mono ?_); rintro e7 w7 ⟨C7, c7, rfl, hT7, hb7⟩; obtain ⟨hc7, hf7⟩ := bcell hb7; have hz7 := hb7.size; rw [World.size_alloc] at hz7)) | fail)
            go_roundw
            case rel => exact ⟨k + 1, p + (y.length + 2), by omega, by omega, by go_num, by go_num, fun _ => hn'.out, fun h => absurd h (by omega), hB.trans (((Below.refl _ _).alloc hbs _).trans (hb7.mono (by simp; omega)))⟩
            case measure => simp [intOf]; omega
          · have w0 : LX.wr ⟨kd, y, p⟩ = y := by unfold LX.wr; rw [if_neg k2]
            rw [w0] at E1 hn' hhi hne
            have t1 : (bs y).toList.isEmpty = false := by rw [ByteArray.toList_eq, bs_list]; simpa using hne
            have t2 : (bs y).toList ≠ [] := by rw [ByteArray.toList_eq, bs_list]; exact hne
            have q1 : ((k : Int) == (ts.length : Int) - 1) = false := by rw [beq_eq_false_iff_ne]; omega
            have d1 : decide ((s.size : Int) < (p : Int) + (y.length : Int)) = false := decide_eq_false (by omega)
            have d2 : decide (p < a) = false := decide_eq_false (by omega)
            have q2 : (kd == 2) = false := by rw [beq_eq_false_iff_ne]; exact k2
            have q4 : (kd == 4) = false := by rw [beq_eq_false_iff_ne]; exact k4
            have q5 : (kd != 4) = true := by rw [bne_iff_ne]; exact k4
            clear w0 k2 k4 hne
            have hbs := hB.size
            go_wp2_with (first | (go_at_call 10; ((with_reducible refine (K7.out _).mono ?_); rintro e7 w7 ⟨C7, c7, rfl, hT7, hb7⟩; obtain ⟨hc7, hf7⟩ := bcell hb7; have hz7 := hb7.size; rw [World.size_alloc] at hz7)) | fail)
            go_roundw
            case rel => exact ⟨k + 1, p + y.length, by omega, by omega, by go_num, by go_num, fun _ => hn'.out, fun h => absurd h (by omega), hB.trans (((Below.refl _ _).alloc hbs _).trans (hb7.mono (by simp; omega)))⟩
            case measure => simp [intOf]; omega
      · obtain rfl : k = ts.length := by omega
        obtain rfl : a = s.size := hE.out rfl
        obtain ⟨b, off, rfl, hb, c0, c1, c2⟩ := (hT6.below (hB.mono hB26)).tok Hlast.out
        clear hS hE
        go_wp2_with fail
        go_ret
        exact ⟨rfl, hB6.trans (hB.mono (by have := hB6.size; omega))⟩
end Go.Proofs.Ytaemahhcacolgaa
