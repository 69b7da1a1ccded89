/- The walk of journey. -/
import Derived.Test.YtphebdmdbnpokaaS1
set_option linter.unusedSimpArgs false
set_option linter.unusedVariables false
namespace Go.Proofs.Ytphebdmdbnpokaa
open Go.RowKit RD
attribute [local go_sem] alloc_drewN setCell_drewN shape_drewN
theorem RD.MinOf.widen {S T : Nat → Prop} {b : Int} (h : MinOf S b) (h1 : ∀ m, S m → T m) (h2 : ∀ m, T m → ∃ k, S k ∧ k ≤ m) : MinOf T b := by
  rcases h with ⟨rfl, h⟩ | ⟨m, rfl, h3, h4⟩
  · exact .inl ⟨rfl, fun m hm => by obtain ⟨k, hk, _⟩ := h2 m hm; exact h k hk⟩
  · exact .inr ⟨m, rfl, h1 m h3, fun k hk => by obtain ⟨j, hj, hjk⟩ := h2 k hk; have := h4 j hj; omega⟩
/-- Open through the first i hours from t on. -/
def opn (N P : Nat) (R : List Rd) (k : Nat) (VS : Vs) (t i : Nat) : Bool := (List.range i).all fun j => openB N P R (k : Int) (volsAt VS (t + j))
theorem opn_succ (N P : Nat) (R : List Rd) (k : Nat) (VS : Vs) (t i : Nat) : opn N P R k VS t (i + 1) = (opn N P R k VS t i && openB N P R (k : Int) (volsAt VS (t + i))) := by
  unfold opn
  rw [List.range_succ, List.all_append]; simp
/-- How many hours are asked. -/
def asked (h : Int) : Nat := min h.toNat 24
theorem cand_iff {N P : Nat} {R : List Rd} {k : Nat} {r : Rd} {VS : Vs} {t : Nat} (hr : R[k]? = some r) : (opn N P R k VS t (asked r.hours) && openB N P R (k : Int) (volsAt VS t)) = true ↔ usableB N P r = true ∧ poss VS r t := by
  rw [Bool.and_eq_true, openB_at hr, Bool.and_eq_true]
  constructor
  · rintro ⟨h1, h2, h3⟩
    have hu := usable_iff.1 h2
    refine ⟨h2, fun i hi => ?_⟩
    unfold opn at h1
    have := List.all_eq_true.1 h1 i (by rw [List.mem_range]; unfold asked; omega)
    rw [openB_at hr, Bool.and_eq_true] at this
    exact this.2
  · rintro ⟨h2, h3⟩
    have hu := usable_iff.1 h2
    refine ⟨?_, h2, h3 0 (by omega)⟩
    unfold opn
    rw [List.all_eq_true]
    intro i hi
    rw [List.mem_range] at hi
    unfold asked at hi
    rw [openB_at hr, h2, h3 i (by omega)]; rfl
/-- What is looked at so far: the roads before k, and of the road k the hours before t. -/
def Look (N P : Nat) (VS : Vs) (R : List Rd) (u v : Int) (now k : Nat) (r : Rd) (t m : Nat) : Prop := Jour N P VS (R.take k) u v now m ∨ usableB N P r = true ∧ ∃ s, now ≤ s ∧ s < t ∧ poss VS r s ∧ s + r.hours.toNat = m
section
variable {N P : Nat} {VS : Vs} {R : List Rd} {u v : Int} {now k : Nat} {r : Rd} {b : Int}
theorem look_begin (h : MinOf (Jour N P VS (R.take k) u v now) b) : MinOf (Look N P VS R u v now k r now) b :=
  h.congr fun m => ⟨.inl, fun q => q.elim id fun ⟨_, s, h1, h2, _⟩ => by omega⟩
theorem look_no {t : Nat} (h : MinOf (Look N P VS R u v now k r t) b) (hn : ¬ (usableB N P r = true ∧ poss VS r t)) : MinOf (Look N P VS R u v now k r (t + 1)) b :=
  h.congr fun m => ⟨fun q => q.imp id fun ⟨h1, s, h2, h3, h4⟩ => ⟨h1, s, h2, by omega, h4⟩, fun q => q.imp id fun ⟨h1, s, h2, h3, h4, h5⟩ => ⟨h1, s, h2, by
    by_cases e : s = t
    · rw [e] at h4; exact absurd ⟨h1, h4⟩ hn
    · omega, h4, h5⟩⟩
theorem look_yes {t : Nat} (h : MinOf (Look N P VS R u v now k r t) b) (ht : now ≤ t) (h1 : usableB N P r = true) (h2 : poss VS r t) : MinOf (Look N P VS R u v now k r (t + 1)) (if b < 0 ∨ ((t + r.hours.toNat : Nat) : Int) < b then ((t + r.hours.toNat : Nat) : Int) else b) :=
  (h.more (t + r.hours.toNat)).congr fun m => ⟨fun q => by
    rcases q with q | q
    · exact q.imp id fun ⟨h1, s, h2, h3, h4⟩ => ⟨h1, s, h2, by omega, h4⟩
    · exact .inr ⟨h1, t, ht, by omega, h2, q.symm⟩, fun q => by
    rcases q with q | ⟨g1, s, g2, g3, g4, g5⟩
    · exact .inl (.inl q)
    · by_cases e : s = t
      · rw [e] at g5; exact .inr g5.symm
      · exact .inl (.inr ⟨g1, s, g2, by omega, g4, g5⟩)⟩
theorem look_end {M : Nat} (hr : R[k]? = some r) (h1 : r.frm = u) (h2 : r.to_ = v) (hM : max now (VS.length - 1) ≤ M) (h : MinOf (Look N P VS R u v now k r (M + 1)) b) : MinOf (Jour N P VS (R.take (k + 1)) u v now) b := by
  rw [take_snoc_at hr]
  refine h.widen (fun m q => ?_) (fun m q => ?_)
  · rcases q with ⟨x, hx, q⟩ | ⟨g1, s, g2, g3, g4, g5⟩
    · exact ⟨x, List.mem_append_left _ hx, q⟩
    · exact ⟨r, by simp, g1, h1, h2, s, g2, g4, g5⟩
  · obtain ⟨x, hx, q1, q2, q3, s, q4, q5, q6⟩ := q
    rcases List.mem_append.1 hx with hx | hx
    · exact ⟨m, .inl ⟨x, hx, q1, q2, q3, s, q4, q5, q6⟩, Nat.le_refl _⟩
    · obtain rfl := List.mem_singleton.1 hx
      obtain ⟨y, hy, hys⟩ := leave_of q4 q5
      have := hy.bound
      exact ⟨y + x.hours.toNat, .inr ⟨q1, y, hy.1, by omega, hy.2.1, rfl⟩, by omega⟩
theorem look_pass (hr : R[k]? = some r) (hn : ¬ (r.frm = u ∧ r.to_ = v)) (h : MinOf (Jour N P VS (R.take k) u v now) b) : MinOf (Jour N P VS (R.take (k + 1)) u v now) b := by
  rw [take_snoc_at hr]
  refine h.congr fun m => ⟨fun ⟨x, hx, q⟩ => ⟨x, List.mem_append_left _ hx, q⟩, fun ⟨x, hx, q1, q2, q3, q⟩ => ?_⟩
  rcases List.mem_append.1 hx with hx | hx
  · exact ⟨x, hx, q1, q2, q3, q⟩
  · obtain rfl := List.mem_singleton.1 hx
    exact absurd ⟨q2, q3⟩ hn
end
def JourIs (X : Bs) (L : List Vl) (u v : Int) (now : Nat) (w : World) (e : Ending) (w' : World) : Prop := e = .returned (.int .i64 (jour X.N X.l3 (vsOf L) X.R u v now)) ∧ Below w.heap.size w w'
set_option maxRecDepth 100000 in
set_option maxHeartbeats 16000000 in
theorem journey_any (X : Bs) (C : Option Addr) (c : Nat) (L : List Vl) (u v : Int) (now : Nat) (w : World) (hX : BsAt w w.heap.size X) (hV : VlsAt w w.heap.size C L) (hbl : BsLen X) (hL : L.length ≤ 1000) (hnow : now ≤ 1000000) :
    Calls Try.prog 31 #[.agg #[.string X.nm, .slice X.a1 X.l1 X.c1, .int .i64 X.cl, .slice X.a3 X.l3 X.c3, .slice X.a4 X.l4 X.c4, .slice X.a5 X.T.length X.c5, .slice X.a6 X.l6 X.c6, .slice X.a7 X.R.length X.c7, .slice X.a8 X.S.length X.c8, .slice X.a9 X.l9 X.c9, .int .i64 X.er], .slice C L.length c, .int .i64 u, .int .i64 v, .int .i64 now] w (JourIs X L u v now w) := by
  obtain ⟨M, hM⟩ : ∃ M, max now L.length = M := ⟨_, rfl⟩
  have m1 : max (now : Int) (L.length : Int) = (M : Int) := by omega
  have m2 : (if (now : Int) < (L.length : Int) then (L.length : Int) else (now : Int)) = (M : Int) := by split <;> omega
  have m3 : (if now < L.length then L.length else now) = M := by split <;> omega
  have m7 : (if now < L.length then (L.length : Int) else (now : Int)) = (M : Int) := by split <;> omega
  have m4 : M ≤ 1000000 := by omega
  have m5 : now ≤ M := by omega
  have hMv : max now ((vsOf L).length - 1) ≤ M := by rw [vsOf_len]; omega
  have HMv := Lib.hid hMv
  have hRb := hbl.r
  have KV := Lib.hid (fun (t : Nat) (wx : World) (h : Below w.heap.size w wx) (ht : t ≤ 9223372036854775807) => lvolumes_any C c L t wx (B := w.heap.size) (hV.below h) (by omega) ht)
  have KO := Lib.hid (fun (k : Nat) (hk : k < X.R.length) (C : Option Addr) (c : Nat) (V : List Int) (hVl : V.length ≤ 9223372036854775807) (wx : World) (h : Below w.heap.size w wx) (hI : IntsAt wx wx.heap.size C V) => open_yes X k C c V wx ((hX.r.below h).more h.size) hI hVl hbl hk)
  unfold OpenIs at KO
  have hXr := hX.r
  obtain ⟨a7, ha7⟩ : ∃ a, X.a7 = a := ⟨_, rfl⟩
  rw [ha7] at hXr KO
  rw [ha7]
  have HXr := Lib.hid hXr
  have hX0 : Box (w.alloc (.cells #[.string X.nm, .slice X.a1 X.l1 X.c1, .int .i64 X.cl, .slice X.a3 X.l3 X.c3, .slice X.a4 X.l4 X.c4, .slice X.a5 X.T.length X.c5, .slice X.a6 X.l6 X.c6, .slice a7 X.R.length X.c7, .slice X.a8 X.S.length X.c8, .slice X.a9 X.l9 X.c9, .int .i64 X.er] 31)) w.heap.size #[.string X.nm, .slice X.a1 X.l1 X.c1, .int .i64 X.cl, .slice X.a3 X.l3 X.c3, .slice X.a4 X.l4 X.c4, .slice X.a5 X.T.length X.c5, .slice X.a6 X.l6 X.c6, .slice a7 X.R.length X.c7, .slice X.a8 X.S.length X.c8, .slice X.a9 X.l9 X.c9, .int .i64 X.er] 31 := Box.new w _ _
  have hB0 : Below w.heap.size w (w.alloc (.cells #[.string X.nm, .slice X.a1 X.l1 X.c1, .int .i64 X.cl, .slice X.a3 X.l3 X.c3, .slice X.a4 X.l4 X.c4, .slice X.a5 X.T.length X.c5, .slice X.a6 X.l6 X.c6, .slice a7 X.R.length X.c7, .slice X.a8 X.S.length X.c8, .slice X.a9 X.l9 X.c9, .int .i64 X.er] 31)) := (Below.refl _ _).alloc (Nat.le_refl _) _
  have hj0 : MinOf (Jour X.N X.l3 (vsOf L) (X.R.take 0) u v now) (-1) := .inl ⟨rfl, fun m ⟨r, hr, _⟩ => by simp at hr⟩
  have Hj0 := Lib.hid hj0
  clear hX hV hbl hXr ha7 hMv hj0
  go_enter Try.func31, Try.ntmps31
  go_wp2_with fail
  go_loopw [11, 12] (fun bv kv wr => ∃ (k : Nat) (b : Int), k ≤ X.R.length ∧ kv = .int .i64 k ∧ bv = .int .i64 b ∧ MinOf (Jour X.N X.l3 (vsOf L) (X.R.take k) u v now) b ∧ Box wr w.heap.size #[.string X.nm, .slice X.a1 X.l1 X.c1, .int .i64 X.cl, .slice X.a3 X.l3 X.c3, .slice X.a4 X.l4 X.c4, .slice X.a5 X.T.length X.c5, .slice X.a6 X.l6 X.c6, .slice a7 X.R.length X.c7, .slice X.a8 X.S.length X.c8, .slice X.a9 X.l9 X.c9, .int .i64 X.er] 31 ∧ Below w.heap.size w wr) (fun _ kv _ => X.R.length - (intOf kv).toNat)
  case atStart => exact ⟨0, -1, Nat.zero_le _, rfl, rfl, Hj0.out, hX0, hB0⟩
  case round =>
    clear hX0 hB0
    obtain ⟨k, b, hk, rfl, rfl, hJ, hBx, hBw⟩ := hrel
    have hwz := hBx.lt
    have HJ := Lib.hid hJ
    clear hJ
    have x7 : wr.cell? ⟨w.heap.size, 7, none⟩ = some (.slice a7 X.R.length X.c7) := hBx.cell rfl
    by_cases hlt : k < X.R.length
    · obtain ⟨r, hr⟩ : ∃ r, X.R[k]? = some r := ⟨_, List.getElem?_eq_getElem hlt⟩
      obtain ⟨b1, off, ec, hb1, c0, c1, c2, c3, c4, c5, c6⟩ := road_at (HXr.out.below hBw) hr
      subst ec
      have hbw : b1 < wr.heap.size := by omega
      have Hr := Lib.hid hr
      have HBx := Lib.hid hBx
      clear hr hBx
      by_cases hfu : r.frm = u
      · by_cases htv : r.to_ = v
        · subst hfu htv
          have KOk := Lib.hid (KO.out k hlt)
          obtain ⟨w1, hw1⟩ : ∃ x, x = wr.alloc (.cells (roadC r).toArray 56) := ⟨_, rfl⟩
          obtain ⟨rb, hrb⟩ : ∃ x, x = wr.heap.size := ⟨_, rfl⟩
          have hBr1 : Box w1 rb (roadC r).toArray 56 := by rw [hw1, hrb]; exact Box.new _ _ _
          have b1w : Below wr.heap.size wr w1 := by rw [hw1]; exact (Below.refl _ _).alloc (Nat.le_refl _) _
          have hBx1 := HBx.out.below b1w hwz
          have hBw1 := hBw.trans (b1w.mono (by omega))
          have hrbw : w.heap.size < rb := by omega
          have Hw1 := Lib.hid hw1
          have Hrb := Lib.hid hrb
          have HBr1 := Lib.hid hBr1
          have HBx1 := Lib.hid hBx1
          clear hw1 hrb hBr1 hBx1 b1w
          go_wp2_with fail
          rw [← Hrb.out]
          rw [show wr.alloc (.cells #[.string r.nm, .int .i64 r.frm, .int .i64 r.to_, .int .i64 r.hours, .int .i64 r.flow, .int .i64 r.by_, .int .i64 r.limit] 56) = w1 from Hw1.out.symm]
          clear c0 c1 c2 c3 c4 c5 c6 x7
          go_loopw [11, 14] (fun bv tv wq => ∃ (t : Nat) (b : Int), tv = .int .i64 t ∧ bv = .int .i64 b ∧ now ≤ t ∧ t ≤ M + 1 ∧ MinOf (Look X.N X.l3 (vsOf L) X.R r.frm r.to_ now k r t) b ∧ Box wq rb (roadC r).toArray 56 ∧ Box wq w.heap.size #[.string X.nm, .slice X.a1 X.l1 X.c1, .int .i64 X.cl, .slice X.a3 X.l3 X.c3, .slice X.a4 X.l4 X.c4, .slice X.a5 X.T.length X.c5, .slice X.a6 X.l6 X.c6, .slice (some ⟨b1, off, none⟩) X.R.length X.c7, .slice X.a8 X.S.length X.c8, .slice X.a9 X.l9 X.c9, .int .i64 X.er] 31 ∧ Below w.heap.size w wq) (fun _ tv _ => M + 1 - (intOf tv).toNat)
          case atStart => exact ⟨now, b, rfl, rfl, Nat.le_refl _, by omega, look_begin HJ.out, HBr1.out, HBx1.out, hBw1⟩
          case round =>
            clear HBr1 HBx1 hBw1 HJ
            obtain ⟨t, b, rfl, rfl, ht1, ht2, hJ, hBr, hBx, hBq⟩ := hrel
            have HJ := Lib.hid hJ
            have HBr := Lib.hid hBr
            have HBx := Lib.hid hBx
            clear hJ hBr hBx
            by_cases htM : t ≤ M
            · have d1 : decide (t ≤ M) = true := decide_eq_true htM
              have hwq := HBx.out.lt
              go_wp2_with fail
              go_loopw [15, 16] (fun ov iv wq => ∃ i : Nat, iv = .int .i64 i ∧ i ≤ asked r.hours ∧ ov = .bool (opn X.N X.l3 X.R k (vsOf L) t i) ∧ Box wq rb (roadC r).toArray 56 ∧ Box wq w.heap.size #[.string X.nm, .slice X.a1 X.l1 X.c1, .int .i64 X.cl, .slice X.a3 X.l3 X.c3, .slice X.a4 X.l4 X.c4, .slice X.a5 X.T.length X.c5, .slice X.a6 X.l6 X.c6, .slice (some ⟨b1, off, none⟩) X.R.length X.c7, .slice X.a8 X.S.length X.c8, .slice X.a9 X.l9 X.c9, .int .i64 X.er] 31 ∧ Below w.heap.size w wq) (fun _ iv _ => 24 - (intOf iv).toNat)
              case atStart => exact ⟨0, rfl, Nat.zero_le _, rfl, HBr.out, HBx.out, hBq⟩
              case round =>
                clear HBr HBx hBq hwq
                obtain ⟨i, rfl, hi, rfl, hBr, hBx, hBq⟩ := hrel
                have ha24 : asked r.hours ≤ 24 := by unfold asked; omega
                obtain ⟨y0, y1, y2, y3, y4, y5, y6⟩ := hBr.road
                have hrz := hBr.lt
                have hwq := hBx.lt
                have x0 : wr.cell? ⟨w.heap.size, 0, none⟩ = some (.string X.nm) := hBx.cell rfl
                have x1 : wr.cell? ⟨w.heap.size, 1, none⟩ = some (.slice X.a1 X.l1 X.c1) := hBx.cell rfl
                have x2 : wr.cell? ⟨w.heap.size, 2, none⟩ = some (.int .i64 X.cl) := hBx.cell rfl
                have x3 : wr.cell? ⟨w.heap.size, 3, none⟩ = some (.slice X.a3 X.l3 X.c3) := hBx.cell rfl
                have x4 : wr.cell? ⟨w.heap.size, 4, none⟩ = some (.slice X.a4 X.l4 X.c4) := hBx.cell rfl
                have x5 : wr.cell? ⟨w.heap.size, 5, none⟩ = some (.slice X.a5 X.T.length X.c5) := hBx.cell rfl
                have x6 : wr.cell? ⟨w.heap.size, 6, none⟩ = some (.slice X.a6 X.l6 X.c6) := hBx.cell rfl
                have x7 : wr.cell? ⟨w.heap.size, 7, none⟩ = some (.slice (some ⟨b1, off, none⟩) X.R.length X.c7) := hBx.cell rfl
                have x8 : wr.cell? ⟨w.heap.size, 8, none⟩ = some (.slice X.a8 X.S.length X.c8) := hBx.cell rfl
                have x9 : wr.cell? ⟨w.heap.size, 9, none⟩ = some (.slice X.a9 X.l9 X.c9) := hBx.cell rfl
                have x10 : wr.cell? ⟨w.heap.size, 10, none⟩ = some (.int .i64 X.er) := hBx.cell rfl
                have HBr := Lib.hid hBr
                have HBx := Lib.hid hBx
                have hwwr : w.heap.size ≤ wr.heap.size := by omega
                clear hBr hBx
                obtain ⟨o, ho⟩ : ∃ o, opn X.N X.l3 X.R k (vsOf L) t i = o := ⟨_, rfl⟩
                rw [ho]
                by_cases hia : i < asked r.hours
                · have g1 : (i : Int) < r.hours := by unfold asked at hia; omega
                  have g2 : i < 24 := by omega
                  have e1 : decide ((i : Int) < r.hours) = true := decide_eq_true g1
                  obtain ⟨s, hs⟩ : ∃ s, s = t + i := ⟨_, rfl⟩
                  have hq1 : IntKind.i64.wrap ((t : Int) + (i : Int)) = (s : Int) := by rw [IntKind.wrap_i64]; omega
                  have hq2 : (t : Int) + (i : Int) = (s : Int) := by omega
                  have hq3 : IntKind.i64.wrap (s : Int) = (s : Int) := by rw [IntKind.wrap_i64]; omega
                  have hsb : s ≤ 2000000 := by omega
                  obtain ⟨p, hp⟩ : ∃ p, openB X.N X.l3 X.R (k : Int) (volsAt (vsOf L) s) = p := ⟨_, rfl⟩
                  have hsn : opn X.N X.l3 X.R k (vsOf L) t (i + 1) = (o && p) := by rw [opn_succ, ho, ← hs, hp]
                  have Hsn := Lib.hid hsn
                  clear ho hsn hia hs
                  cases o
                  · clear hp
                    go_wp2_with fail
                    refine Plan.wp_region_below 11 [(0, true), (1, true), (2, true), (3, true), (4, true), (5, true), (6, true), (7, true), (8, true), (9, true), (10, true), (11, false)] (by kernel_rfl) (by kernel_rfl) ?_
                    (repeat (first | (refine Plan.plan_read (v := ?_) rfl rfl ?_ ?_; rotate_left; (focus ((intro wS hSw; have hkS := (bcell hSw).1; try (have hkT := fun (b o : Nat) (h : b < w.heap.size) => hkS b o (by first | omega | (simp; omega) | (simp; done))); go_simp); try with_reducible rfl)); simp only [Act.put, List.setIfInBounds_toArray, List.set_cons_zero, List.set_cons_succ]) | (refine Plan.plan_skip rfl rfl ?_; simp only [Act.put, List.setIfInBounds_toArray, List.set_cons_zero, List.set_cons_succ])))
                    refine Plan.plan_last rfl (fun K hK => ?_)
                    go_simp
                    refine hK.out _ _ ?_
                    clear hK K
                    try simp only [Act.put, List.setIfInBounds_toArray, List.set_cons_zero, List.set_cons_succ]
                    go_wp2_with fail
                    go_roundw
                    case rel => exact ⟨i + 1, by go_num, by unfold asked; omega, by rw [Hsn.out]; rfl, HBr.out.below ((Below.refl _ _).drew) hrz, HBx.out.below ((Below.refl _ _).drew) hwq, hBq.drew⟩
                    case measure => simp [intOf]; omega
                  · go_wp2_with fail
                    refine Plan.wp_region_below 11 [(0, true), (1, true), (2, true), (3, true), (4, true), (5, true), (6, true), (7, true), (8, false), (9, false), (10, true), (11, false)] (by kernel_rfl) (by kernel_rfl) ?_
                    (repeat (first | (refine Plan.plan_read (v := ?_) rfl rfl ?_ ?_; rotate_left; (focus ((intro wS hSw; have hkS := (bcell hSw).1; try (have hkT := fun (b o : Nat) (h : b < w.heap.size) => hkS b o (by first | omega | (simp; omega) | (simp; done))); go_simp); try with_reducible rfl)); simp only [Act.put, List.setIfInBounds_toArray, List.set_cons_zero, List.set_cons_succ]) | (refine Plan.plan_skip rfl rfl ?_; simp only [Act.put, List.setIfInBounds_toArray, List.set_cons_zero, List.set_cons_succ])))
                    refine Plan.plan_write rfl (fun K hK => ?_)
                    go_simp
                    go_at_call 46
                    (with_reducible refine (KV.out s _ (hBq.drew) (by omega)).mono ?_)
                    rintro e1 w4 ⟨C1, c1, rfl, hI1, hL1, rfl⟩
                    have hI2 : IntsAt wr.drew wr.drew.heap.size C1 (volsAt (vsOf L) s) := CellsAt.more hI1 (by show w.heap.size ≤ wr.heap.size; omega)
                    have KO1 := Lib.hid (KOk.out C1 c1 (volsAt (vsOf L) s) hL1 wr.drew hBq.drew hI2)
                    rw [hp] at KO1
                    go_simp
                    refine hK.out _ _ ((Below.refl _ _).drew) ?_
                    clear hK K
                    try simp only [Act.put, List.setIfInBounds_toArray, List.set_cons_zero, List.set_cons_succ]
                    (repeat (first | (refine Plan.plan_read (v := ?_) rfl rfl ?_ ?_; rotate_left; (focus ((intro wS hSw; have hkS := (bcell hSw).1; try (have hkT := fun (b o : Nat) (h : b < w.heap.size) => hkS b o (by first | omega | (simp; omega) | (simp; done))); go_simp); try with_reducible rfl)); simp only [Act.put, List.setIfInBounds_toArray, List.set_cons_zero, List.set_cons_succ]) | (refine Plan.plan_skip rfl rfl ?_; simp only [Act.put, List.setIfInBounds_toArray, List.set_cons_zero, List.set_cons_succ])))
                    refine Plan.plan_write rfl (fun K hK => ?_)
                    go_simp
                    go_at_call 14
                    (with_reducible refine (KO1.out).mono ?_)
                    rintro e2 w5 ⟨rfl, hb5⟩
                    have kB := Plan.below_drew_go hb5
                    have hz5 := kB.size
                    refine hK.out _ _ kB ?_
                    clear hK K
                    try simp only [Act.put, List.setIfInBounds_toArray, List.set_cons_zero, List.set_cons_succ]
                    (repeat (first | (refine Plan.plan_read (v := ?_) rfl rfl ?_ ?_; rotate_left; (focus ((intro wS hSw; have hkS := (bcell hSw).1; try (have hkT := fun (b o : Nat) (h : b < w.heap.size) => hkS b o (by first | omega | (simp; omega) | (simp; done))); go_simp); try with_reducible rfl)); simp only [Act.put, List.setIfInBounds_toArray, List.set_cons_zero, List.set_cons_succ]) | (refine Plan.plan_skip rfl rfl ?_; simp only [Act.put, List.setIfInBounds_toArray, List.set_cons_zero, List.set_cons_succ])))
                    refine Plan.plan_last rfl (fun K hK => ?_)
                    go_simp
                    refine hK.out _ _ ?_
                    clear hK K
                    try simp only [Act.put, List.setIfInBounds_toArray, List.set_cons_zero, List.set_cons_succ]
                    go_wp2_with fail
                    go_roundw
                    case rel => exact ⟨i + 1, by go_num, by unfold asked; omega, by rw [Hsn.out]; cases p <;> rfl, HBr.out.below kB hrz, HBx.out.below kB hwq, hBq.trans (kB.mono (by omega))⟩
                    case measure => simp [intOf]; omega
                · obtain rfl : i = asked r.hours := by omega
                  have Ho := Lib.hid ho
                  clear ho
                  by_cases hA : (asked r.hours : Int) < r.hours
                  · have h24 : asked r.hours = 24 := by unfold asked at hA ⊢; omega
                    rw [h24]
                    have e1 : decide ((24 : Int) < r.hours) = true := decide_eq_true (by omega)
                    have e2 : decide (((24 : Nat) : Int) < r.hours) = true := decide_eq_true (by omega)
                    cases o
                    · have hno : ¬ (usableB X.N X.l3 r = true ∧ poss (vsOf L) r t) := fun q => by have := (cand_iff Hr.out (t := t) (N := X.N) (P := X.l3) (VS := vsOf L)).2 q; rw [Ho.out] at this; cases this
                      have Hno := Lib.hid hno
                      clear hno
                      go_wp2_with fail
                      refine Plan.wp_region_below 20 [(0, true), (1, true), (2, true), (3, true), (4, true), (5, true), (6, true), (7, true), (8, true), (9, true), (10, true), (11, true), (12, true), (13, true), (14, true), (15, true), (16, true), (17, true), (18, true), (19, true), (20, false)] (by kernel_rfl) (by kernel_rfl) ?_
                      (repeat (first | (refine Plan.plan_read (v := ?_) rfl rfl ?_ ?_; rotate_left; (focus ((intro wS hSw; have hkS := (bcell hSw).1; try (have hkT := fun (b o : Nat) (h : b < w.heap.size) => hkS b o (by first | omega | (simp; omega) | (simp; done))); go_simp); try with_reducible rfl)); simp only [Act.put, List.setIfInBounds_toArray, List.set_cons_zero, List.set_cons_succ]) | (refine Plan.plan_skip rfl rfl ?_; simp only [Act.put, List.setIfInBounds_toArray, List.set_cons_zero, List.set_cons_succ])))
                      refine Plan.plan_last rfl (fun K hK => ?_)
                      go_simp
                      refine hK.out _ _ ?_
                      clear hK K
                      try simp only [Act.put, List.setIfInBounds_toArray, List.set_cons_zero, List.set_cons_succ]
                      go_wp2_with fail
                      go_roundw
                      case rel => exact ⟨t + 1, b, by go_num, rfl, by omega, by omega, look_no HJ.out Hno.out, HBr.out.below ((Below.refl _ _).drew) hrz, HBx.out.below ((Below.refl _ _).drew) hwq, hBq.drew⟩
                      case measure => simp [intOf]; omega
                    · obtain ⟨p, hp⟩ : ∃ p, openB X.N X.l3 X.R (k : Int) (volsAt (vsOf L) t) = p := ⟨_, rfl⟩
                      cases p
                      · have hno : ¬ (usableB X.N X.l3 r = true ∧ poss (vsOf L) r t) := fun q => by have := (cand_iff Hr.out (t := t) (N := X.N) (P := X.l3) (VS := vsOf L)).2 q; rw [Ho.out, hp] at this; cases this
                        have Hno := Lib.hid hno
                        clear hno
                        go_wp2_with fail
                        refine Plan.wp_region_below 20 [(0, true), (1, true), (2, true), (3, true), (4, true), (5, true), (6, false), (7, false), (8, true), (9, true), (10, true), (11, true), (12, true), (13, true), (14, true), (15, true), (16, true), (17, true), (18, true), (19, true), (20, false)] (by kernel_rfl) (by kernel_rfl) ?_
                        (repeat (first | (refine Plan.plan_read (v := ?_) rfl rfl ?_ ?_; rotate_left; (focus ((intro wS hSw; have hkS := (bcell hSw).1; try (have hkT := fun (b o : Nat) (h : b < w.heap.size) => hkS b o (by first | omega | (simp; omega) | (simp; done))); go_simp); try with_reducible rfl)); simp only [Act.put, List.setIfInBounds_toArray, List.set_cons_zero, List.set_cons_succ]) | (refine Plan.plan_skip rfl rfl ?_; simp only [Act.put, List.setIfInBounds_toArray, List.set_cons_zero, List.set_cons_succ])))
                        refine Plan.plan_write rfl (fun K hK => ?_)
                        go_simp
                        go_at_call 46
                        (with_reducible refine (KV.out t _ (hBq.drew) (by omega)).mono ?_)
                        rintro e1 w4 ⟨C1, c1, rfl, hI1, hL1, rfl⟩
                        have hI2 : IntsAt wr.drew wr.drew.heap.size C1 (volsAt (vsOf L) (t)) := CellsAt.more hI1 (by show w.heap.size ≤ wr.heap.size; omega)
                        have KO1 := Lib.hid (KOk.out C1 c1 (volsAt (vsOf L) (t)) hL1 wr.drew hBq.drew hI2)
                        rw [hp] at KO1
                        go_simp
                        refine hK.out _ _ ((Below.refl _ _).drew) ?_
                        clear hK K
                        try simp only [Act.put, List.setIfInBounds_toArray, List.set_cons_zero, List.set_cons_succ]
                        (repeat (first | (refine Plan.plan_read (v := ?_) rfl rfl ?_ ?_; rotate_left; (focus ((intro wS hSw; have hkS := (bcell hSw).1; try (have hkT := fun (b o : Nat) (h : b < w.heap.size) => hkS b o (by first | omega | (simp; omega) | (simp; done))); go_simp); try with_reducible rfl)); simp only [Act.put, List.setIfInBounds_toArray, List.set_cons_zero, List.set_cons_succ]) | (refine Plan.plan_skip rfl rfl ?_; simp only [Act.put, List.setIfInBounds_toArray, List.set_cons_zero, List.set_cons_succ])))
                        refine Plan.plan_write rfl (fun K hK => ?_)
                        go_simp
                        go_at_call 14
                        (with_reducible refine (KO1.out).mono ?_)
                        rintro e2 w5 ⟨rfl, hb5⟩
                        have kB := Plan.below_drew_go hb5
                        have hz5 := kB.size
                        refine hK.out _ _ kB ?_
                        clear hK K
                        try simp only [Act.put, List.setIfInBounds_toArray, List.set_cons_zero, List.set_cons_succ]
                        (repeat (first | (refine Plan.plan_read (v := ?_) rfl rfl ?_ ?_; rotate_left; (focus ((intro wS hSw; have hkS := (bcell hSw).1; try (have hkT := fun (b o : Nat) (h : b < w.heap.size) => hkS b o (by first | omega | (simp; omega) | (simp; done))); go_simp); try with_reducible rfl)); simp only [Act.put, List.setIfInBounds_toArray, List.set_cons_zero, List.set_cons_succ]) | (refine Plan.plan_skip rfl rfl ?_; simp only [Act.put, List.setIfInBounds_toArray, List.set_cons_zero, List.set_cons_succ])))
                        refine Plan.plan_last rfl (fun K hK => ?_)
                        go_simp
                        refine hK.out _ _ ?_
                        clear hK K
                        try simp only [Act.put, List.setIfInBounds_toArray, List.set_cons_zero, List.set_cons_succ]
                        go_wp2_with fail
                        go_roundw
                        case rel => exact ⟨t + 1, b, by go_num, rfl, by omega, by omega, look_no HJ.out Hno.out, HBr.out.below kB hrz, HBx.out.below kB hwq, hBq.trans (kB.mono (by omega))⟩
                        case measure => simp [intOf]; omega
                      · obtain ⟨hus, hpo⟩ := (cand_iff Hr.out (t := t) (N := X.N) (P := X.l3) (VS := vsOf L)).1 (by rw [Ho.out, hp]; rfl)
                        have hu6 := (usable_iff.1 hus).2.2.2.2.2.1
                        omega
                  · have e1 : decide ((asked r.hours : Int) < r.hours) = false := decide_eq_false hA
                    cases o
                    · have hno : ¬ (usableB X.N X.l3 r = true ∧ poss (vsOf L) r t) := fun q => by have := (cand_iff Hr.out (t := t) (N := X.N) (P := X.l3) (VS := vsOf L)).2 q; rw [Ho.out] at this; cases this
                      have Hno := Lib.hid hno
                      clear hno
                      go_wp2_with fail
                      refine Plan.wp_region_below 20 [(0, true), (1, true), (2, true), (3, true), (4, true), (5, true), (6, true), (7, true), (8, true), (9, true), (10, true), (11, true), (12, true), (13, true), (14, true), (15, true), (16, true), (17, true), (18, true), (19, true), (20, false)] (by kernel_rfl) (by kernel_rfl) ?_
                      (repeat (first | (refine Plan.plan_read (v := ?_) rfl rfl ?_ ?_; rotate_left; (focus ((intro wS hSw; have hkS := (bcell hSw).1; try (have hkT := fun (b o : Nat) (h : b < w.heap.size) => hkS b o (by first | omega | (simp; omega) | (simp; done))); go_simp); try with_reducible rfl)); simp only [Act.put, List.setIfInBounds_toArray, List.set_cons_zero, List.set_cons_succ]) | (refine Plan.plan_skip rfl rfl ?_; simp only [Act.put, List.setIfInBounds_toArray, List.set_cons_zero, List.set_cons_succ])))
                      refine Plan.plan_last rfl (fun K hK => ?_)
                      go_simp
                      refine hK.out _ _ ?_
                      clear hK K
                      try simp only [Act.put, List.setIfInBounds_toArray, List.set_cons_zero, List.set_cons_succ]
                      go_wp2_with fail
                      go_roundw
                      case rel => exact ⟨t + 1, b, by go_num, rfl, by omega, by omega, look_no HJ.out Hno.out, HBr.out.below ((Below.refl _ _).drew) hrz, HBx.out.below ((Below.refl _ _).drew) hwq, hBq.drew⟩
                      case measure => simp [intOf]; omega
                    · obtain ⟨p, hp⟩ : ∃ p, openB X.N X.l3 X.R (k : Int) (volsAt (vsOf L) t) = p := ⟨_, rfl⟩
                      cases p
                      · have hno : ¬ (usableB X.N X.l3 r = true ∧ poss (vsOf L) r t) := fun q => by have := (cand_iff Hr.out (t := t) (N := X.N) (P := X.l3) (VS := vsOf L)).2 q; rw [Ho.out, hp] at this; cases this
                        have Hno := Lib.hid hno
                        clear hno
                        go_wp2_with fail
                        refine Plan.wp_region_below 20 [(0, true), (1, true), (2, true), (3, true), (4, true), (5, true), (6, false), (7, false), (8, true), (9, true), (10, true), (11, true), (12, true), (13, true), (14, true), (15, true), (16, true), (17, true), (18, true), (19, true), (20, false)] (by kernel_rfl) (by kernel_rfl) ?_
                        (repeat (first | (refine Plan.plan_read (v := ?_) rfl rfl ?_ ?_; rotate_left; (focus ((intro wS hSw; have hkS := (bcell hSw).1; try (have hkT := fun (b o : Nat) (h : b < w.heap.size) => hkS b o (by first | omega | (simp; omega) | (simp; done))); go_simp); try with_reducible rfl)); simp only [Act.put, List.setIfInBounds_toArray, List.set_cons_zero, List.set_cons_succ]) | (refine Plan.plan_skip rfl rfl ?_; simp only [Act.put, List.setIfInBounds_toArray, List.set_cons_zero, List.set_cons_succ])))
                        refine Plan.plan_write rfl (fun K hK => ?_)
                        go_simp
                        go_at_call 46
                        (with_reducible refine (KV.out t _ (hBq.drew) (by omega)).mono ?_)
                        rintro e1 w4 ⟨C1, c1, rfl, hI1, hL1, rfl⟩
                        have hI2 : IntsAt wr.drew wr.drew.heap.size C1 (volsAt (vsOf L) (t)) := CellsAt.more hI1 (by show w.heap.size ≤ wr.heap.size; omega)
                        have KO1 := Lib.hid (KOk.out C1 c1 (volsAt (vsOf L) (t)) hL1 wr.drew hBq.drew hI2)
                        rw [hp] at KO1
                        go_simp
                        refine hK.out _ _ ((Below.refl _ _).drew) ?_
                        clear hK K
                        try simp only [Act.put, List.setIfInBounds_toArray, List.set_cons_zero, List.set_cons_succ]
                        (repeat (first | (refine Plan.plan_read (v := ?_) rfl rfl ?_ ?_; rotate_left; (focus ((intro wS hSw; have hkS := (bcell hSw).1; try (have hkT := fun (b o : Nat) (h : b < w.heap.size) => hkS b o (by first | omega | (simp; omega) | (simp; done))); go_simp); try with_reducible rfl)); simp only [Act.put, List.setIfInBounds_toArray, List.set_cons_zero, List.set_cons_succ]) | (refine Plan.plan_skip rfl rfl ?_; simp only [Act.put, List.setIfInBounds_toArray, List.set_cons_zero, List.set_cons_succ])))
                        refine Plan.plan_write rfl (fun K hK => ?_)
                        go_simp
                        go_at_call 14
                        (with_reducible refine (KO1.out).mono ?_)
                        rintro e2 w5 ⟨rfl, hb5⟩
                        have kB := Plan.below_drew_go hb5
                        have hz5 := kB.size
                        refine hK.out _ _ kB ?_
                        clear hK K
                        try simp only [Act.put, List.setIfInBounds_toArray, List.set_cons_zero, List.set_cons_succ]
                        (repeat (first | (refine Plan.plan_read (v := ?_) rfl rfl ?_ ?_; rotate_left; (focus ((intro wS hSw; have hkS := (bcell hSw).1; try (have hkT := fun (b o : Nat) (h : b < w.heap.size) => hkS b o (by first | omega | (simp; omega) | (simp; done))); go_simp); try with_reducible rfl)); simp only [Act.put, List.setIfInBounds_toArray, List.set_cons_zero, List.set_cons_succ]) | (refine Plan.plan_skip rfl rfl ?_; simp only [Act.put, List.setIfInBounds_toArray, List.set_cons_zero, List.set_cons_succ])))
                        refine Plan.plan_last rfl (fun K hK => ?_)
                        go_simp
                        refine hK.out _ _ ?_
                        clear hK K
                        try simp only [Act.put, List.setIfInBounds_toArray, List.set_cons_zero, List.set_cons_succ]
                        go_wp2_with fail
                        go_roundw
                        case rel => exact ⟨t + 1, b, by go_num, rfl, by omega, by omega, look_no HJ.out Hno.out, HBr.out.below kB hrz, HBx.out.below kB hwq, hBq.trans (kB.mono (by omega))⟩
                        case measure => simp [intOf]; omega
                      · obtain ⟨hus, hpo⟩ := (cand_iff Hr.out (t := t) (N := X.N) (P := X.l3) (VS := vsOf L)).1 (by rw [Ho.out, hp]; rfl)
                        have hu5 := (usable_iff.1 hus).2.2.2.2.1
                        have hu6 := (usable_iff.1 hus).2.2.2.2.2.1
                        have hyes := look_yes HJ.out ht1 hus hpo
                        obtain ⟨s, hs⟩ : ∃ s, s = t + r.hours.toNat := ⟨_, rfl⟩
                        rw [← hs] at hyes
                        have hq1 : IntKind.i64.wrap ((t : Int) + r.hours) = (s : Int) := by rw [IntKind.wrap_i64]; omega
                        have hq2 : (t : Int) + r.hours = (s : Int) := by omega
                        have hq3 : IntKind.i64.wrap (s : Int) = (s : Int) := by rw [IntKind.wrap_i64]; omega
                        have Hyes := Lib.hid hyes
                        clear hyes hs hus hpo
                        by_cases hb0 : b < 0
                        · have e3 : decide (b < 0) = true := decide_eq_true hb0
                          rw [if_pos (.inl hb0)] at Hyes
                          go_wp2_with fail
                          refine Plan.wp_region_below 20 [(0, true), (1, true), (2, true), (3, true), (4, true), (5, true), (6, false), (7, false), (8, true), (9, true), (10, true), (11, true), (12, true), (13, true), (14, true), (15, true), (16, true), (17, true), (18, true), (19, true), (20, false)] (by kernel_rfl) (by kernel_rfl) ?_
                          (repeat (first | (refine Plan.plan_read (v := ?_) rfl rfl ?_ ?_; rotate_left; (focus ((intro wS hSw; have hkS := (bcell hSw).1; try (have hkT := fun (b o : Nat) (h : b < w.heap.size) => hkS b o (by first | omega | (simp; omega) | (simp; done))); go_simp); try with_reducible rfl)); simp only [Act.put, List.setIfInBounds_toArray, List.set_cons_zero, List.set_cons_succ]) | (refine Plan.plan_skip rfl rfl ?_; simp only [Act.put, List.setIfInBounds_toArray, List.set_cons_zero, List.set_cons_succ])))
                          refine Plan.plan_write rfl (fun K hK => ?_)
                          go_simp
                          go_at_call 46
                          (with_reducible refine (KV.out t _ (hBq.drew) (by omega)).mono ?_)
                          rintro e1 w4 ⟨C1, c1, rfl, hI1, hL1, rfl⟩
                          have hI2 : IntsAt wr.drew wr.drew.heap.size C1 (volsAt (vsOf L) (t)) := CellsAt.more hI1 (by show w.heap.size ≤ wr.heap.size; omega)
                          have KO1 := Lib.hid (KOk.out C1 c1 (volsAt (vsOf L) (t)) hL1 wr.drew hBq.drew hI2)
                          rw [hp] at KO1
                          go_simp
                          refine hK.out _ _ ((Below.refl _ _).drew) ?_
                          clear hK K
                          try simp only [Act.put, List.setIfInBounds_toArray, List.set_cons_zero, List.set_cons_succ]
                          (repeat (first | (refine Plan.plan_read (v := ?_) rfl rfl ?_ ?_; rotate_left; (focus ((intro wS hSw; have hkS := (bcell hSw).1; try (have hkT := fun (b o : Nat) (h : b < w.heap.size) => hkS b o (by first | omega | (simp; omega) | (simp; done))); go_simp); try with_reducible rfl)); simp only [Act.put, List.setIfInBounds_toArray, List.set_cons_zero, List.set_cons_succ]) | (refine Plan.plan_skip rfl rfl ?_; simp only [Act.put, List.setIfInBounds_toArray, List.set_cons_zero, List.set_cons_succ])))
                          refine Plan.plan_write rfl (fun K hK => ?_)
                          go_simp
                          go_at_call 14
                          (with_reducible refine (KO1.out).mono ?_)
                          rintro e2 w5 ⟨rfl, hb5⟩
                          have kB := Plan.below_drew_go hb5
                          have hz5 := kB.size
                          refine hK.out _ _ kB ?_
                          clear hK K
                          try simp only [Act.put, List.setIfInBounds_toArray, List.set_cons_zero, List.set_cons_succ]
                          (repeat (first | (refine Plan.plan_read (v := ?_) rfl rfl ?_ ?_; rotate_left; (focus ((intro wS hSw; have hkS := (bcell hSw).1; try (have hkT := fun (b o : Nat) (h : b < w.heap.size) => hkS b o (by first | omega | (simp; omega) | (simp; done))); go_simp); try with_reducible rfl)); simp only [Act.put, List.setIfInBounds_toArray, List.set_cons_zero, List.set_cons_succ]) | (refine Plan.plan_skip rfl rfl ?_; simp only [Act.put, List.setIfInBounds_toArray, List.set_cons_zero, List.set_cons_succ])))
                          refine Plan.plan_last rfl (fun K hK => ?_)
                          go_simp
                          refine hK.out _ _ ?_
                          clear hK K
                          try simp only [Act.put, List.setIfInBounds_toArray, List.set_cons_zero, List.set_cons_succ]
                          have y3' := (HBr.out.below kB hrz).road.2.2.2.1
                          go_wp2_with fail
                          go_roundw
                          case rel => exact ⟨t + 1, s, by go_num, rfl, by omega, by omega, Hyes.out, HBr.out.below kB hrz, HBx.out.below kB hwq, hBq.trans (kB.mono (by omega))⟩
                          case measure => simp [intOf]; omega
                        · have e3 : decide (b < 0) = false := decide_eq_false hb0
                          by_cases hsb : (s : Int) < b
                          · have e4 : decide ((s : Int) < b) = true := decide_eq_true hsb
                            rw [if_pos (.inr hsb)] at Hyes
                            go_wp2_with fail
                            refine Plan.wp_region_below 20 [(0, true), (1, true), (2, true), (3, true), (4, true), (5, true), (6, false), (7, false), (8, true), (9, true), (10, true), (11, true), (12, true), (13, true), (14, true), (15, true), (16, true), (17, true), (18, true), (19, true), (20, false)] (by kernel_rfl) (by kernel_rfl) ?_
                            (repeat (first | (refine Plan.plan_read (v := ?_) rfl rfl ?_ ?_; rotate_left; (focus ((intro wS hSw; have hkS := (bcell hSw).1; try (have hkT := fun (b o : Nat) (h : b < w.heap.size) => hkS b o (by first | omega | (simp; omega) | (simp; done))); go_simp); try with_reducible rfl)); simp only [Act.put, List.setIfInBounds_toArray, List.set_cons_zero, List.set_cons_succ]) | (refine Plan.plan_skip rfl rfl ?_; simp only [Act.put, List.setIfInBounds_toArray, List.set_cons_zero, List.set_cons_succ])))
                            refine Plan.plan_write rfl (fun K hK => ?_)
                            go_simp
                            go_at_call 46
                            (with_reducible refine (KV.out t _ (hBq.drew) (by omega)).mono ?_)
                            rintro e1 w4 ⟨C1, c1, rfl, hI1, hL1, rfl⟩
                            have hI2 : IntsAt wr.drew wr.drew.heap.size C1 (volsAt (vsOf L) (t)) := CellsAt.more hI1 (by show w.heap.size ≤ wr.heap.size; omega)
                            have KO1 := Lib.hid (KOk.out C1 c1 (volsAt (vsOf L) (t)) hL1 wr.drew hBq.drew hI2)
                            rw [hp] at KO1
                            go_simp
                            refine hK.out _ _ ((Below.refl _ _).drew) ?_
                            clear hK K
                            try simp only [Act.put, List.setIfInBounds_toArray, List.set_cons_zero, List.set_cons_succ]
                            (repeat (first | (refine Plan.plan_read (v := ?_) rfl rfl ?_ ?_; rotate_left; (focus ((intro wS hSw; have hkS := (bcell hSw).1; try (have hkT := fun (b o : Nat) (h : b < w.heap.size) => hkS b o (by first | omega | (simp; omega) | (simp; done))); go_simp); try with_reducible rfl)); simp only [Act.put, List.setIfInBounds_toArray, List.set_cons_zero, List.set_cons_succ]) | (refine Plan.plan_skip rfl rfl ?_; simp only [Act.put, List.setIfInBounds_toArray, List.set_cons_zero, List.set_cons_succ])))
                            refine Plan.plan_write rfl (fun K hK => ?_)
                            go_simp
                            go_at_call 14
                            (with_reducible refine (KO1.out).mono ?_)
                            rintro e2 w5 ⟨rfl, hb5⟩
                            have kB := Plan.below_drew_go hb5
                            have hz5 := kB.size
                            refine hK.out _ _ kB ?_
                            clear hK K
                            try simp only [Act.put, List.setIfInBounds_toArray, List.set_cons_zero, List.set_cons_succ]
                            (repeat (first | (refine Plan.plan_read (v := ?_) rfl rfl ?_ ?_; rotate_left; (focus ((intro wS hSw; have hkS := (bcell hSw).1; try (have hkT := fun (b o : Nat) (h : b < w.heap.size) => hkS b o (by first | omega | (simp; omega) | (simp; done))); go_simp); try with_reducible rfl)); simp only [Act.put, List.setIfInBounds_toArray, List.set_cons_zero, List.set_cons_succ]) | (refine Plan.plan_skip rfl rfl ?_; simp only [Act.put, List.setIfInBounds_toArray, List.set_cons_zero, List.set_cons_succ])))
                            refine Plan.plan_last rfl (fun K hK => ?_)
                            go_simp
                            refine hK.out _ _ ?_
                            clear hK K
                            try simp only [Act.put, List.setIfInBounds_toArray, List.set_cons_zero, List.set_cons_succ]
                            have y3' := (HBr.out.below kB hrz).road.2.2.2.1
                            go_wp2_with fail
                            go_roundw
                            case rel => exact ⟨t + 1, s, by go_num, rfl, by omega, by omega, Hyes.out, HBr.out.below kB hrz, HBx.out.below kB hwq, hBq.trans (kB.mono (by omega))⟩
                            case measure => simp [intOf]; omega
                          · have e4 : decide ((s : Int) < b) = false := decide_eq_false hsb
                            rw [if_neg (fun q => q.elim hb0 hsb)] at Hyes
                            go_wp2_with fail
                            refine Plan.wp_region_below 20 [(0, true), (1, true), (2, true), (3, true), (4, true), (5, true), (6, false), (7, false), (8, true), (9, true), (10, true), (11, true), (12, true), (13, true), (14, true), (15, true), (16, true), (17, true), (18, true), (19, true), (20, false)] (by kernel_rfl) (by kernel_rfl) ?_
                            (repeat (first | (refine Plan.plan_read (v := ?_) rfl rfl ?_ ?_; rotate_left; (focus ((intro wS hSw; have hkS := (bcell hSw).1; try (have hkT := fun (b o : Nat) (h : b < w.heap.size) => hkS b o (by first | omega | (simp; omega) | (simp; done))); go_simp); try with_reducible rfl)); simp only [Act.put, List.setIfInBounds_toArray, List.set_cons_zero, List.set_cons_succ]) | (refine Plan.plan_skip rfl rfl ?_; simp only [Act.put, List.setIfInBounds_toArray, List.set_cons_zero, List.set_cons_succ])))
                            refine Plan.plan_write rfl (fun K hK => ?_)
                            go_simp
                            go_at_call 46
                            (with_reducible refine (KV.out t _ (hBq.drew) (by omega)).mono ?_)
                            rintro e1 w4 ⟨C1, c1, rfl, hI1, hL1, rfl⟩
                            have hI2 : IntsAt wr.drew wr.drew.heap.size C1 (volsAt (vsOf L) (t)) := CellsAt.more hI1 (by show w.heap.size ≤ wr.heap.size; omega)
                            have KO1 := Lib.hid (KOk.out C1 c1 (volsAt (vsOf L) (t)) hL1 wr.drew hBq.drew hI2)
                            rw [hp] at KO1
                            go_simp
                            refine hK.out _ _ ((Below.refl _ _).drew) ?_
                            clear hK K
                            try simp only [Act.put, List.setIfInBounds_toArray, List.set_cons_zero, List.set_cons_succ]
                            (repeat (first | (refine Plan.plan_read (v := ?_) rfl rfl ?_ ?_; rotate_left; (focus ((intro wS hSw; have hkS := (bcell hSw).1; try (have hkT := fun (b o : Nat) (h : b < w.heap.size) => hkS b o (by first | omega | (simp; omega) | (simp; done))); go_simp); try with_reducible rfl)); simp only [Act.put, List.setIfInBounds_toArray, List.set_cons_zero, List.set_cons_succ]) | (refine Plan.plan_skip rfl rfl ?_; simp only [Act.put, List.setIfInBounds_toArray, List.set_cons_zero, List.set_cons_succ])))
                            refine Plan.plan_write rfl (fun K hK => ?_)
                            go_simp
                            go_at_call 14
                            (with_reducible refine (KO1.out).mono ?_)
                            rintro e2 w5 ⟨rfl, hb5⟩
                            have kB := Plan.below_drew_go hb5
                            have hz5 := kB.size
                            refine hK.out _ _ kB ?_
                            clear hK K
                            try simp only [Act.put, List.setIfInBounds_toArray, List.set_cons_zero, List.set_cons_succ]
                            (repeat (first | (refine Plan.plan_read (v := ?_) rfl rfl ?_ ?_; rotate_left; (focus ((intro wS hSw; have hkS := (bcell hSw).1; try (have hkT := fun (b o : Nat) (h : b < w.heap.size) => hkS b o (by first | omega | (simp; omega) | (simp; done))); go_simp); try with_reducible rfl)); simp only [Act.put, List.setIfInBounds_toArray, List.set_cons_zero, List.set_cons_succ]) | (refine Plan.plan_skip rfl rfl ?_; simp only [Act.put, List.setIfInBounds_toArray, List.set_cons_zero, List.set_cons_succ])))
                            refine Plan.plan_last rfl (fun K hK => ?_)
                            go_simp
                            refine hK.out _ _ ?_
                            clear hK K
                            try simp only [Act.put, List.setIfInBounds_toArray, List.set_cons_zero, List.set_cons_succ]
                            go_wp2_with fail
                            go_roundw
                            case rel => exact ⟨t + 1, b, by go_num, rfl, by omega, by omega, Hyes.out, HBr.out.below kB hrz, HBx.out.below kB hwq, hBq.trans (kB.mono (by omega))⟩
                            case measure => simp [intOf]; omega
            · obtain rfl : M + 1 = t := by omega
              have d1 : decide (M + 1 ≤ M) = false := decide_eq_false (by omega)
              have d2 : decide (((M + 1 : Nat) : Int) ≤ (M : Int)) = false := decide_eq_false (by omega)
              go_wp2_with fail
              go_roundw
              case rel => exact ⟨k + 1, b, by omega, by go_num, rfl, look_end Hr.out rfl rfl HMv.out HJ.out, HBx.out, hBq⟩
              case measure => simp [intOf]; omega
        · have d1 : (r.frm != u) = false := by rw [hfu]; simp
          have d2 : (r.to_ != v) = true := by simpa using htv
          have hn : ¬ (r.frm = u ∧ r.to_ = v) := fun h => htv h.2
          have Hn := Lib.hid hn
          subst hfu
          clear htv hn
          go_wp2_with fail
          have hb2 := (Below.refl wr.heap.size wr).alloc (Nat.le_refl _) (.cells (roadC r).toArray 56)
          go_roundw
          case rel => exact ⟨k + 1, b, by omega, by go_num, rfl, look_pass Hr.out Hn.out HJ.out, HBx.out.below hb2 hwz, hBw.trans (hb2.mono (by omega))⟩
          case measure => simp [intOf]; omega
      · have d1 : (r.frm != u) = true := by simpa using hfu
        have hn : ¬ (r.frm = u ∧ r.to_ = v) := fun h => hfu h.1
        have Hn := Lib.hid hn
        clear hfu hn
        go_wp2_with fail
        have hb2 := (Below.refl wr.heap.size wr).alloc (Nat.le_refl _) (.cells (roadC r).toArray 56)
        go_roundw
        case rel => exact ⟨k + 1, b, by omega, by go_num, rfl, look_pass Hr.out Hn.out HJ.out, HBx.out.below hb2 hwz, hBw.trans (hb2.mono (by omega))⟩
        case measure => simp [intOf]; omega
    · obtain rfl : X.R.length = k := by omega
      go_wp2_with fail
      go_ret
      have := HJ.out
      rw [List.take_length] at this
      exact ⟨ret_int this.eq.symm, hBw⟩
end Go.Proofs.Ytphebdmdbnpokaa
