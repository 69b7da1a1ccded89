/- The walk of the reference's Scan. -/
import Derived.Test.YtaemahhcacolgaaW18
namespace Go.Proofs.Ytaemahhcacolgaa
open Go.RowKit LX

theorem below_app {W w1 : World} {n₀ e size k : Nat} {v : Value} {xs : List Value} {tmp : Obj} (hrow : W.ownsRow n₀ e size v k xs) (hn₀ : n₀ ≤ W.heap.size) (hgrow : (W.alloc tmp).grownBy w1 v.ownBlock) : Below n₀ W w1 := by
  refine ((Below.refl n₀ W).alloc hn₀ tmp).grown hgrow (by simp; omega) fun j ej => ?_
  rcases hrow.2 with ⟨rfl, _⟩ | ⟨g, cap, cur, rfl, hb, _, _⟩
  · simp [Value.ownBlock] at ej
  · obtain rfl : g = j := by simpa [Value.ownBlock] using ej
    exact hb
theorem row_below {W w1 : World} {n₀ e size k : Nat} {v : Value} {xs : List Value} (hrow : W.ownsRow n₀ e size v k xs) (hb : Below W.heap.size W w1) : w1.ownsRow n₀ e size v k xs :=
  hrow.kept (row := none) ⟨hb.os, hb.tape, hb.output, hb.size, fun j hj _ => hb.block j hj⟩ (by
    rcases hrow.2 with ⟨rfl, _⟩ | ⟨g, cap, cur, rfl, hb, _, _⟩
    · exact .inl rfl
    · exact .inr (by simp [Value.ownBlock]))
theorem cell_three_at {w : World} {b : Nat} (hb : w.heap.size = b) (e : Nat) (x y z : Value) : ∀ j u, [x, y, z][j]? = some u → (w.alloc (.cells #[x, y, z] e)).cell? ((⟨b, 0, none⟩ : Addr).add j) = some u := by
  subst hb; exact cell_three_new _ _ _ _ _
theorem row_app {w1 : World} {n₀ : Nat} {v : Value} {e : TypeId} (pre : List TB) (t : Tok) (b : Bool) (h : w1.ownsRow n₀ e 3 v (pre.length + 1) (rowC (pre.map (fun y : TB => y.1)) ++ [.int .i64 t.kind, .string (bs t.text), .int .i64 (t.pos : Int)])) :
    w1.ownsRow n₀ e 3 v (pre ++ [(t, b)]).length (rowC ((pre ++ [(t, b)]).map (fun y : TB => y.1))) := by
  have e1 : rowC (List.map (fun y : TB => y.1) (pre ++ [(t, b)])) = rowC (List.map (fun y : TB => y.1) pre) ++ [.int .i64 t.kind, .string (bs t.text), .int .i64 (t.pos : Int)] := by
    rw [List.map_append, show List.map (fun y : TB => y.1) [(t, b)] = [t] from rfl, rowC_snoc]; rfl
  rw [e1, List.length_append]
  exact h
theorem rscan_full (s : ByteArray) (w : World) (h : 65536 < s.size) (hs : s.size ≤ 9223372036854775807) :
    Calls Try.prog 11 #[.string s] w fun e w' => e = .returned (.tuple #[.slice none 0 0, .int .i64 8, .int .i64 0]) ∧ Below w.heap.size w w' := by
  have h' : (65536 : Int) < (s.size : Int) := by omega
  go_enter Try.func11, Try.ntmps11
  go_wp2_with fail
  go_ret3
  exact ⟨rfl, Below.refl _ _⟩
theorem rest_true {s : ByteArray} {ts : List Tok} {err : Option Nat} {pre : List TB} {t : Tok} (hp : ∀ x ∈ pre, x.2 = true) (h : seqT s.data.toList ts err = pre ++ [(t, true)]) : err = none ∧ ts = pre.map (fun y : TB => y.1) ++ [t] := by
  have h1 := seq_true (l := s.data.toList) (ts := ts) (err := err) (by rw [h]; intro x hx; rcases List.mem_append.1 hx with q | q; exact hp x q; simp at q; subst q; rfl)
  refine ⟨h1.1, ?_⟩
  rw [← h1.2, h]; simp
theorem rest_false {s : ByteArray} {ts : List Tok} {err : Option Nat} {pre : List TB} {t : Tok} (h : seqT s.data.toList ts err = pre ++ [(t, false)]) : err = some t.pos :=
  seq_false (l := s.data.toList) (ts := ts) (by rw [h]; simp)
set_option maxRecDepth 100000 in
set_option maxHeartbeats 4000000 in
theorem rscan_any (s : ByteArray) (w : World) (hs : s.size ≤ 65536) {ts : List Tok} {err : Option Nat} (hsc : Sc s.data.toList 0 ts err) : Calls Try.prog 11 #[.string s] w (ScanIs s ts err w) := by
  have hfull := rest_start s hsc
  have hq := seq_len hsc
  simp only [Array.length_toList] at hq
  have hsz' : s.data.size = s.size := rfl
  obtain ⟨i0, hi, hz0, hz1, hz2⟩ := info_parts Try.infoTok
  have h' : ¬ (65536 : Int) < (s.size : Int) := by omega
  have K1 := Lib.hid fun a wx (ha : a ≤ s.size) => rskip_any s a wx (by omega) ha
  have K2 := Lib.hid fun a wx (ha : a < s.size) => rtoken_any s a wx (by omega) ha
  unfold SkipIs at K1
  unfold RTokIs at K2
  have K0 : Hid (∀ wx, Calls Try.prog 17 #[.string s, .int .i64 0] wx fun e w' => e = .returned (.int .i64 ((0 + skipC false (s.data.toList.drop 0) : Nat) : Int)) ∧ wx = w') := fun wx => K1.out 0 wx (Nat.zero_le _)
  go_enter Try.func11, Try.ntmps11
  go_wp2_with (first | (go_at_call 17; ((with_reducible refine (K0.out _).mono ?_); rintro e1 w1 ⟨rfl, rfl⟩)) | fail)
  go_loopw [5, 6] (fun out at_ wr => ∃ (pre : List TB) (q : Nat), at_ = .int .i64 ((q + skipC false (s.data.toList.drop q) : Nat) : Int) ∧ Hid (Rest s (seqT s.data.toList ts err) pre q) ∧ Hid (∀ x ∈ pre, x.2 = true) ∧ wr.ownsRow w.heap.size 32 3 out pre.length (rowC (pre.map (fun y : TB => y.1))) ∧ Below w.heap.size w wr)
    (fun _ at_ _ => s.size - (intOf at_).toNat)
  case atStart => exact ⟨[], 0, by simp, hfull, fun _ h => absurd h (by simp), World.ownsRow_nil _ _ _ _, Below.refl _ _⟩
  case round =>
    obtain ⟨pre, q, rfl, hR, hfl, hrow, hB⟩ := hrel
    have hcs := hR.out.cases
    clear hR
    obtain ⟨a, ha⟩ : ∃ a, q + skipC false (s.data.toList.drop q) = a := ⟨_, rfl⟩
    simp only [ha] at hcs ⊢
    clear ha
    have hBs := hB.size
    rcases hcs with ⟨h1, h2, h3⟩ | ⟨h1, h2, h3⟩ | ⟨h1, h2, h3, h4, h5⟩
    · have hpl : pre.length + 1 ≤ s.size + 1 := by rw [h3] at hq; simpa using hq
      have hf := Lib.hid (rest_true hfl.out h3)
      have hlt : ¬ a < s.size := by omega
      obtain rfl := h2
      clear h3 h1
      go_wp2_with (first | (at_builtin; refine wpList_append_own _ rfl _ _ 22 rfl w.heap.size 32 i0 (.agg #[.int .i64 0, .string ⟨#[]⟩, .int .i64 0]) 3 32 Try.underlying22 hi hz0 hz1 hz2 rfl (by decide) _ pre.length _ rfl (hrow.alloc _) ⟨wr.heap.size, 0, none⟩ 1 1 [.int .i64 4, .string ⟨#[]⟩, .int .i64 s.size] rfl rfl (cell_three_new _ _ _ _ _) (by simp [Value.oneCell']) (by unfold maxLen; omega) (by omega) (by simp; omega) ?_; intro v' w1 hown' hgrow _; obtain ⟨g', cap', rfl⟩ := ownsRow_succ hown') | fail)
      have hb := below_app hrow hBs hgrow
      have hr2 := row_app pre ⟨4, [], s.size⟩ true hown'
      obtain ⟨he, hm⟩ := hf.out
      have hlen : pre.length + 1 = ts.length := by rw [hm]; simp
      rw [show List.map (fun y : TB => y.1) (pre ++ [(⟨4, [], s.size⟩, true)]) = ts by rw [hm]; simp, show (pre ++ [((⟨4, [], s.size⟩ : Tok), true)]).length = ts.length by rw [hm]; simp] at hr2
      rw [hlen] at hr2 ⊢
      clear hm hlen hfl hown' hgrow
      go_ret3
      exact ⟨hB.trans hb, .inl ⟨he, _, cap', rfl, toks_slice hr2⟩⟩
    · have hf := Lib.hid (rest_false h3)
      have K3 := fun wx => K2.out a wx h1
      clear h3
      simp only [h2] at K3
      have K3 := Lib.hid K3
      clear K2 K1
      go_wp2_with (first | (go_at_call 18; ((with_reducible refine (K3.out _).mono ?_); rintro e1 w1 ⟨kd, tx, ps, n, rfl, _, hn, hb⟩; obtain rfl := hn trivial)) | fail)
      go_ret3
      exact ⟨hB.trans ((hb.mono hBs).alloc (Nat.le_trans hBs hb.size) _), .inr ⟨a, hf.out, rfl⟩⟩
    · have hf := Lib.hid h5
      have hle := h5.le
      clear h5
      have K3 := fun wx => K2.out a wx h1
      obtain ⟨r, hr⟩ : ∃ r, tokL (s.data.toList.drop a) = r := ⟨_, rfl⟩
      simp only [hr] at K3 h2 h3 hf hle
      simp only [h2] at K3
      have K3 := Lib.hid K3
      have K4 : Hid (∀ wx, Calls Try.prog 17 #[.string s, .int .i64 ((a : Int) + r.n)] wx fun e w' => e = .returned (.int .i64 ((a + r.n + skipC false (s.data.toList.drop (a + r.n)) : Nat) : Int)) ∧ wx = w') := fun wx => by have := K1.out (a + r.n) wx hle; rwa [Int.natCast_add] at this
      clear K2 K1 hr h2
      go_wp2_with (first | (go_at_call 18; ((with_reducible refine (K3.out _).mono ?_); rintro e1 w1 ⟨kd, tx, ps, n, rfl, hn, _, hb⟩; obtain ⟨rfl, rfl, rfl, rfl⟩ := hn trivial; have hrow1 : w1.ownsRow w.heap.size 32 3 _ _ _ := row_below hrow hb; have hbs := hb.size)) | (at_builtin; refine wpList_append_own _ rfl _ _ 22 rfl w.heap.size 32 i0 (.agg #[.int .i64 0, .string ⟨#[]⟩, .int .i64 0]) 3 32 Try.underlying22 hi hz0 hz1 hz2 rfl (by decide) _ pre.length _ rfl ((hrow1.alloc _).alloc _) ⟨w1.heap.size + 1, 0, none⟩ 1 1 [.int .i64 r.kind, .string (bs r.text), .int .i64 (a : Int)] rfl rfl (cell_three_at (by simp) _ _ _ _) (by simp [Value.oneCell']) (by unfold maxLen; omega) (by omega) (by simp; omega) ?_; intro v' w2 hown' hgrow _; obtain ⟨g', cap', rfl⟩ := ownsRow_succ hown') | (go_at_call 17; ((with_reducible refine (K4.out _).mono ?_); rintro e3 w3 ⟨rfl, rfl⟩)) | fail)
      have hb2 := below_app (hrow1.alloc _) (by simp; omega) hgrow
      have hr2 := row_app pre ⟨r.kind, r.text, a⟩ true hown'
      have hfl2 : Hid (∀ x ∈ pre ++ [((⟨r.kind, r.text, a⟩ : Tok), true)], x.2 = true) := fun x hx => by
        rcases List.mem_append.1 hx with q | q
        · exact hfl.out x q
        · simp at q; subst q; rfl
      have hB2 : Below w.heap.size w w2 := hB.trans (((hb.mono hBs).alloc (by omega) _).trans hb2)
      clear hown' hgrow hfl hrow1 hrow hb2 hb hB
      go_roundw
      case rel => exact ⟨_, a + r.n, by go_num, hf, hfl2, by simpa using hr2, hB2⟩
      case measure => simp [intOf]; omega
end Go.Proofs.Ytaemahhcacolgaa
