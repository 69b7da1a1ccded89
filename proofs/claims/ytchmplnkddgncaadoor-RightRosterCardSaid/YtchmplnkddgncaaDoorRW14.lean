/- The walk of small. -/
import Derived.Test.YtchmplnkddgncaaDoorRW13
import Derived.Test.YtchmplnkddgncaaDoorRS0
import Derived.Laws.MakeOwn
set_option linter.unusedSimpArgs false
set_option linter.unusedVariables false
namespace Go.Proofs.YtchmplnkddgncaaDoor
open Go.RowKit CM RG
attribute [local go_sem] alloc_drewN setCell_drewN shape_drewN

theorem Tryd.infoPlace : (Tryd.prog.info? 95).map (fun i => (i.zero, i.size, i.bytes)) = some (some (.agg #[.string ⟨#[]⟩, .int .i64 0, .int .i64 0, .int .i64 0, .slice none 0 0, .slice none 0 0, .int .i64 0, .int .i64 0, .int .i64 0, .int .i64 0, .int .i64 0, .slice none 0 0]), 12, 152) := by kernel_rfl
theorem make_row {P : Program} (t e : TypeId) (i : TypeInfo) (z : Value) (ht : P.underlying t = some (.slice e)) (hi : P.info? e = some i) (hz : i.zero = some z) (n : Nat) (hb : i.bytes * n ≤ 281474976710656) (hn : n ≤ maxLen) :
    ∃ M : Array Value, ∀ wx : World, (Instr.makeSlice t (.int .i64 (n : Int)) (.int .i64 (n : Int))).run P wx = .ok (.slice (some ⟨wx.heap.size, 0, none⟩) n n) (wx.alloc (.cells M e)) := by
  refine ⟨madeCells z.cells (n * i.size), fun wx => ?_⟩
  have hb' : (i.bytes : Int) * (n : Int) ≤ 281474976710656 := by
    have h : ((i.bytes * n : Nat) : Int) ≤ 281474976710656 := by omega
    rwa [Int.natCast_mul] at h
  have hr := run_make (P := P) wx t e i z ht hi hz .i64 .i64 n n (by omega) (by omega) hb' (by unfold maxLen at hn; omega)
  simp only [Int.toNat_natCast] at hr
  exact hr
theorem rt_in_r : RtIn RS.r := by unfold RtIn In64 RS.r; decide
theorem dls_in : DlsIn RS.ls := fun d hd => by
  simp only [RS.ls, List.mem_cons, List.not_mem_nil, or_false] at hd
  rcases hd with rfl | rfl | rfl
  · unfold RtIn In64 RS.d1 RS.r; decide
  · unfold RtIn In64 RS.d2; decide
  · unfold RtIn In64 RS.d3; decide
theorem roster_at (X : Bas) (pl : Pl) (L : List Dl) (C : Option Addr) (cc : Nat) (day known : Int) (w : World) {B : Nat} {R : List Rt} (hM : Months w) (hC : DealsAt w B C L) (hB : B ≤ w.heap.size) (hl : L.length ≤ 100) (hI : DlsIn L) (hR : rosterR X.l1 pl.length day known L = R) :
    Calls Tryd.prog 16 #[.agg #[.string X.nm, .slice X.a1 X.l1 X.c1, .int .i64 X.cl, .slice X.P pl.length X.cP, .slice X.a4 X.l4 X.c4, .slice X.a5 X.l5 X.c5, .slice X.a6 X.l6 X.c6, .slice X.a7 X.l7 X.c7, .slice X.a8 X.l8 X.c8, .slice X.a9 X.l9 X.c9, .int .i64 X.er], .slice C L.length cc, .int .i64 day, .int .i64 known] w (fun e w' => ∃ C cc, e = .returned (.slice C R.length cc) ∧ RightsAt w' w'.heap.size C R ∧ Below w.heap.size w w') := by
  subst hR
  exact (roster_any X pl L C cc day known w hM hC hB hl hI).mono fun e w' ⟨C, cc, h1, _, h2, h3⟩ => ⟨C, cc, h1, h2, h3⟩
theorem order_at (L : List Rt) (C : Option Addr) (cc : Nat) (w : World) {R : List Rt} (hC : RightsAt w w.heap.size C L) (hl : L.length ≤ 1000000) (hR : orderR L = R) :
    Calls Tryd.prog 14 #[.slice C L.length cc] w (fun e w' => ∃ C cc, e = .returned (.slice C R.length cc) ∧ RightsAt w' w'.heap.size C R ∧ Below w.heap.size w w') := by
  subst hR
  exact (order_any L C cc w hC (Nat.le_refl _) hl).mono fun e w' ⟨C, cc, h1, _, h2, h3⟩ => ⟨C, cc, h1, h2, h3⟩
theorem right_at (X : Bas) (pl : Pl) (r : Rt) (w : World) {b : Bool} (hM : Months w) (hr : RtIn r) (hb : rightB X.l1 pl.length r = b) : Calls Tryd.prog 9 #[.agg #[.string X.nm, .slice X.a1 X.l1 X.c1, .int .i64 X.cl, .slice X.P pl.length X.cP, .slice X.a4 X.l4 X.c4, .slice X.a5 X.l5 X.c5, .slice X.a6 X.l6 X.c6, .slice X.a7 X.l7 X.c7, .slice X.a8 X.l8 X.c8, .slice X.a9 X.l9 X.c9, .int .i64 X.er], .agg #[.int .i64 r.id, .int .i64 r.owner, .int .i64 r.date, .int .i64 r.place, .int .i64 r.rate, .int .i64 r.from1, .int .i64 r.until1, .int .i64 r.back, .int .i64 r.backTo]] w (BoolIs b w) := by
  subst hb; exact right_any X pl r w hM hr
theorem season_at (r : Rt) (day : Int) (w : World) {b : Bool} (hM : Months w) (hr : RtIn r) (hb : seasonB r day = b) : Calls Tryd.prog 11 #[.agg #[.int .i64 r.id, .int .i64 r.owner, .int .i64 r.date, .int .i64 r.place, .int .i64 r.rate, .int .i64 r.from1, .int .i64 r.until1, .int .i64 r.back, .int .i64 r.backTo], .int .i64 day] w (BoolIs b w) := by
  subst hb; exact season_any r day w hM hr
set_option maxRecDepth 100000 in
set_option maxHeartbeats 8000000 in
theorem small_any (w : World) (hM : Months w) : Calls Tryd.prog 8 #[] w (BoolIs true w) := by
  obtain ⟨i0, hi, hz0, hz1, hz2⟩ := info_parts Tryd.infoPlace
  obtain ⟨M, hmk⟩ := make_row (P := Tryd.prog) 23 95 i0 _ Tryd.underlying23 hi hz0 2 (by rw [hz2]; decide) (by decide)
  have hmk : ∀ wx : World, (Instr.makeSlice 23 (.int .i64 2) (.int .i64 2)).run Tryd.prog wx = .ok (.slice (some ⟨wx.heap.size, 0, none⟩) 2 2) (wx.alloc (.cells M 95)) := hmk
  go_enter Tryd.func8, Tryd.ntmps8
  go_wp2_with fail
  rename_i K0 hK0
  obtain ⟨W0, hW0⟩ : ∃ W0, W0 = ((((((w.alloc (.cells #[.string ⟨#[97]⟩, .string ⟨#[99]⟩] 9)).alloc (.cells M 95)).alloc (.cells #[.string ⟨#[]⟩, .slice (some ⟨w.heap.size, 0, none⟩) 2 2, .int .i64 0, .slice (some ⟨w.heap.size + 1, 0, none⟩) 2 2, .slice none 0 0, .slice none 0 0, .slice none 0 0, .slice none 0 0, .slice none 0 0, .slice none 0 0, .int .i64 0] 31)).alloc (.cells #[.int .i64 5, .int .i64 0, .int .i64 1900, .int .i64 0, .int .i64 100, .int .i64 401, .int .i64 930, .int .i64 0, .int .i64 (-1)] 33)).alloc (.cells #[.int .i64 0, .int .i64 0, .int .i64 5, .int .i64 0, .int .i64 1900, .int .i64 0, .int .i64 100, .int .i64 401, .int .i64 930, .int .i64 0, .int .i64 (-1), .int .i64 0, .int .i64 0, .int .i64 1, .int .i64 50, .int .i64 5, .int .i64 1, .int .i64 0, .int .i64 0, .int .i64 0, .int .i64 0, .int .i64 0, .int .i64 0, .int .i64 0, .int .i64 100, .int .i64 200, .int .i64 3, .int .i64 3000, .int .i64 5, .int .i64 0, .int .i64 0, .int .i64 0, .int .i64 0, .int .i64 0, .int .i64 0, .int .i64 0, .int .i64 0, .int .i64 180, .int .i64 0] 44)).alloc (.cells #[.int .i64 5, .int .i64 1, .int .i64 1900, .int .i64 0, .int .i64 100, .int .i64 401, .int .i64 930, .int .i64 0, .int .i64 (-1)] 33)) := ⟨_, rfl⟩
  have hs0 : W0.heap.size = w.heap.size + 6 := by rw [hW0]; simp
  have hB0 : Below w.heap.size w W0 := by
    rw [hW0]
    exact (((((below_new w _).alloc (by simp) _).alloc (by simp; omega) _).alloc (by simp; omega) _).alloc (by simp; omega) _).alloc (by simp; omega) _
  have hbx : BoxR W0 (w.heap.size + 1 + 1) { nm := ⟨#[]⟩, a1 := some ⟨w.heap.size, 0, none⟩, l1 := 2, c1 := 2, cl := 0, P := some ⟨w.heap.size + 1, 0, none⟩, cP := 2, a4 := none, l4 := 0, c4 := 0, a5 := none, l5 := 0, c5 := 0, a6 := none, l6 := 0, c6 := 0, a7 := none, l7 := 0, c7 := 0, a8 := none, l8 := 0, c8 := 0, a9 := none, l9 := 0, c9 := 0, er := 0 } [(0, 0), (0, 0)] := by
    rw [hW0]
    have h := heap_alloc_new ((w.alloc (.cells #[.string ⟨#[97]⟩, .string ⟨#[99]⟩] 9)).alloc (.cells M 95)) (.cells #[.string ⟨#[]⟩, .slice (some ⟨w.heap.size, 0, none⟩) 2 2, .int .i64 0, .slice (some ⟨w.heap.size + 1, 0, none⟩) 2 2, .slice none 0 0, .slice none 0 0, .slice none 0 0, .slice none 0 0, .slice none 0 0, .slice none 0 0, .int .i64 0] 31)
    simp only [World.size_alloc] at h
    exact (Below.heap_alloc _ _ _ (by simp)).trans ((Below.heap_alloc _ _ _ (by simp)).trans ((Below.heap_alloc _ _ _ (by simp)).trans h))
  have hbr : BoxRt W0 (w.heap.size + 1 + 1 + 1) RS.r := by
    rw [hW0]
    have h := heap_alloc_new (((w.alloc (.cells #[.string ⟨#[97]⟩, .string ⟨#[99]⟩] 9)).alloc (.cells M 95)).alloc (.cells #[.string ⟨#[]⟩, .slice (some ⟨w.heap.size, 0, none⟩) 2 2, .int .i64 0, .slice (some ⟨w.heap.size + 1, 0, none⟩) 2 2, .slice none 0 0, .slice none 0 0, .slice none 0 0, .slice none 0 0, .slice none 0 0, .slice none 0 0, .int .i64 0] 31)) (.cells #[.int .i64 5, .int .i64 0, .int .i64 1900, .int .i64 0, .int .i64 100, .int .i64 401, .int .i64 930, .int .i64 0, .int .i64 (-1)] 33)
    simp only [World.size_alloc] at h
    exact (Below.heap_alloc _ _ _ (by simp)).trans ((Below.heap_alloc _ _ _ (by simp)).trans h)
  have hbq : BoxRt W0 (w.heap.size + 1 + 1 + 1 + 1 + 1) RS.q := by
    rw [hW0]
    have h := heap_alloc_new (((((w.alloc (.cells #[.string ⟨#[97]⟩, .string ⟨#[99]⟩] 9)).alloc (.cells M 95)).alloc (.cells #[.string ⟨#[]⟩, .slice (some ⟨w.heap.size, 0, none⟩) 2 2, .int .i64 0, .slice (some ⟨w.heap.size + 1, 0, none⟩) 2 2, .slice none 0 0, .slice none 0 0, .slice none 0 0, .slice none 0 0, .slice none 0 0, .slice none 0 0, .int .i64 0] 31)).alloc (.cells #[.int .i64 5, .int .i64 0, .int .i64 1900, .int .i64 0, .int .i64 100, .int .i64 401, .int .i64 930, .int .i64 0, .int .i64 (-1)] 33)).alloc (.cells #[.int .i64 0, .int .i64 0, .int .i64 5, .int .i64 0, .int .i64 1900, .int .i64 0, .int .i64 100, .int .i64 401, .int .i64 930, .int .i64 0, .int .i64 (-1), .int .i64 0, .int .i64 0, .int .i64 1, .int .i64 50, .int .i64 5, .int .i64 1, .int .i64 0, .int .i64 0, .int .i64 0, .int .i64 0, .int .i64 0, .int .i64 0, .int .i64 0, .int .i64 100, .int .i64 200, .int .i64 3, .int .i64 3000, .int .i64 5, .int .i64 0, .int .i64 0, .int .i64 0, .int .i64 0, .int .i64 0, .int .i64 0, .int .i64 0, .int .i64 0, .int .i64 180, .int .i64 0] 44)) (.cells #[.int .i64 5, .int .i64 1, .int .i64 1900, .int .i64 0, .int .i64 100, .int .i64 401, .int .i64 930, .int .i64 0, .int .i64 (-1)] 33)
    simp only [World.size_alloc] at h
    exact h
  have hds : DealsAt W0 W0.heap.size (some ⟨w.heap.size + 1 + 1 + 1 + 1, 0, none⟩) RS.ls := by
    rw [hW0]
    have h : DealsAt (((((w.alloc (.cells #[.string ⟨#[97]⟩, .string ⟨#[99]⟩] 9)).alloc (.cells M 95)).alloc (.cells #[.string ⟨#[]⟩, .slice (some ⟨w.heap.size, 0, none⟩) 2 2, .int .i64 0, .slice (some ⟨w.heap.size + 1, 0, none⟩) 2 2, .slice none 0 0, .slice none 0 0, .slice none 0 0, .slice none 0 0, .slice none 0 0, .slice none 0 0, .int .i64 0] 31)).alloc (.cells #[.int .i64 5, .int .i64 0, .int .i64 1900, .int .i64 0, .int .i64 100, .int .i64 401, .int .i64 930, .int .i64 0, .int .i64 (-1)] 33)).alloc (.cells #[.int .i64 0, .int .i64 0, .int .i64 5, .int .i64 0, .int .i64 1900, .int .i64 0, .int .i64 100, .int .i64 401, .int .i64 930, .int .i64 0, .int .i64 (-1), .int .i64 0, .int .i64 0, .int .i64 1, .int .i64 50, .int .i64 5, .int .i64 1, .int .i64 0, .int .i64 0, .int .i64 0, .int .i64 0, .int .i64 0, .int .i64 0, .int .i64 0, .int .i64 100, .int .i64 200, .int .i64 3, .int .i64 3000, .int .i64 5, .int .i64 0, .int .i64 0, .int .i64 0, .int .i64 0, .int .i64 0, .int .i64 0, .int .i64 0, .int .i64 0, .int .i64 180, .int .i64 0] 44)) (((((w.alloc (.cells #[.string ⟨#[97]⟩, .string ⟨#[99]⟩] 9)).alloc (.cells M 95)).alloc (.cells #[.string ⟨#[]⟩, .slice (some ⟨w.heap.size, 0, none⟩) 2 2, .int .i64 0, .slice (some ⟨w.heap.size + 1, 0, none⟩) 2 2, .slice none 0 0, .slice none 0 0, .slice none 0 0, .slice none 0 0, .slice none 0 0, .slice none 0 0, .int .i64 0] 31)).alloc (.cells #[.int .i64 5, .int .i64 0, .int .i64 1900, .int .i64 0, .int .i64 100, .int .i64 401, .int .i64 930, .int .i64 0, .int .i64 (-1)] 33)).alloc (.cells #[.int .i64 0, .int .i64 0, .int .i64 5, .int .i64 0, .int .i64 1900, .int .i64 0, .int .i64 100, .int .i64 401, .int .i64 930, .int .i64 0, .int .i64 (-1), .int .i64 0, .int .i64 0, .int .i64 1, .int .i64 50, .int .i64 5, .int .i64 1, .int .i64 0, .int .i64 0, .int .i64 0, .int .i64 0, .int .i64 0, .int .i64 0, .int .i64 0, .int .i64 100, .int .i64 200, .int .i64 3, .int .i64 3000, .int .i64 5, .int .i64 0, .int .i64 0, .int .i64 0, .int .i64 0, .int .i64 0, .int .i64 0, .int .i64 0, .int .i64 0, .int .i64 180, .int .i64 0] 44)).heap.size (some ⟨((((w.alloc (.cells #[.string ⟨#[97]⟩, .string ⟨#[99]⟩] 9)).alloc (.cells M 95)).alloc (.cells #[.string ⟨#[]⟩, .slice (some ⟨w.heap.size, 0, none⟩) 2 2, .int .i64 0, .slice (some ⟨w.heap.size + 1, 0, none⟩) 2 2, .slice none 0 0, .slice none 0 0, .slice none 0 0, .slice none 0 0, .slice none 0 0, .slice none 0 0, .int .i64 0] 31)).alloc (.cells #[.int .i64 5, .int .i64 0, .int .i64 1900, .int .i64 0, .int .i64 100, .int .i64 401, .int .i64 930, .int .i64 0, .int .i64 (-1)] 33)).heap.size, 0, none⟩) RS.ls := rowk_new dl_len ((((w.alloc (.cells #[.string ⟨#[97]⟩, .string ⟨#[99]⟩] 9)).alloc (.cells M 95)).alloc (.cells #[.string ⟨#[]⟩, .slice (some ⟨w.heap.size, 0, none⟩) 2 2, .int .i64 0, .slice (some ⟨w.heap.size + 1, 0, none⟩) 2 2, .slice none 0 0, .slice none 0 0, .slice none 0 0, .slice none 0 0, .slice none 0 0, .slice none 0 0, .int .i64 0] 31)).alloc (.cells #[.int .i64 5, .int .i64 0, .int .i64 1900, .int .i64 0, .int .i64 100, .int .i64 401, .int .i64 930, .int .i64 0, .int .i64 (-1)] 33)) RS.ls 44
    have h2 : DealsAt ((((((w.alloc (.cells #[.string ⟨#[97]⟩, .string ⟨#[99]⟩] 9)).alloc (.cells M 95)).alloc (.cells #[.string ⟨#[]⟩, .slice (some ⟨w.heap.size, 0, none⟩) 2 2, .int .i64 0, .slice (some ⟨w.heap.size + 1, 0, none⟩) 2 2, .slice none 0 0, .slice none 0 0, .slice none 0 0, .slice none 0 0, .slice none 0 0, .slice none 0 0, .int .i64 0] 31)).alloc (.cells #[.int .i64 5, .int .i64 0, .int .i64 1900, .int .i64 0, .int .i64 100, .int .i64 401, .int .i64 930, .int .i64 0, .int .i64 (-1)] 33)).alloc (.cells #[.int .i64 0, .int .i64 0, .int .i64 5, .int .i64 0, .int .i64 1900, .int .i64 0, .int .i64 100, .int .i64 401, .int .i64 930, .int .i64 0, .int .i64 (-1), .int .i64 0, .int .i64 0, .int .i64 1, .int .i64 50, .int .i64 5, .int .i64 1, .int .i64 0, .int .i64 0, .int .i64 0, .int .i64 0, .int .i64 0, .int .i64 0, .int .i64 0, .int .i64 100, .int .i64 200, .int .i64 3, .int .i64 3000, .int .i64 5, .int .i64 0, .int .i64 0, .int .i64 0, .int .i64 0, .int .i64 0, .int .i64 0, .int .i64 0, .int .i64 0, .int .i64 180, .int .i64 0] 44)).alloc (.cells #[.int .i64 5, .int .i64 1, .int .i64 1900, .int .i64 0, .int .i64 100, .int .i64 401, .int .i64 930, .int .i64 0, .int .i64 (-1)] 33)) ((((((w.alloc (.cells #[.string ⟨#[97]⟩, .string ⟨#[99]⟩] 9)).alloc (.cells M 95)).alloc (.cells #[.string ⟨#[]⟩, .slice (some ⟨w.heap.size, 0, none⟩) 2 2, .int .i64 0, .slice (some ⟨w.heap.size + 1, 0, none⟩) 2 2, .slice none 0 0, .slice none 0 0, .slice none 0 0, .slice none 0 0, .slice none 0 0, .slice none 0 0, .int .i64 0] 31)).alloc (.cells #[.int .i64 5, .int .i64 0, .int .i64 1900, .int .i64 0, .int .i64 100, .int .i64 401, .int .i64 930, .int .i64 0, .int .i64 (-1)] 33)).alloc (.cells #[.int .i64 0, .int .i64 0, .int .i64 5, .int .i64 0, .int .i64 1900, .int .i64 0, .int .i64 100, .int .i64 401, .int .i64 930, .int .i64 0, .int .i64 (-1), .int .i64 0, .int .i64 0, .int .i64 1, .int .i64 50, .int .i64 5, .int .i64 1, .int .i64 0, .int .i64 0, .int .i64 0, .int .i64 0, .int .i64 0, .int .i64 0, .int .i64 0, .int .i64 100, .int .i64 200, .int .i64 3, .int .i64 3000, .int .i64 5, .int .i64 0, .int .i64 0, .int .i64 0, .int .i64 0, .int .i64 0, .int .i64 0, .int .i64 0, .int .i64 0, .int .i64 180, .int .i64 0] 44)).alloc (.cells #[.int .i64 5, .int .i64 1, .int .i64 1900, .int .i64 0, .int .i64 100, .int .i64 401, .int .i64 930, .int .i64 0, .int .i64 (-1)] 33)).heap.size (some ⟨((((w.alloc (.cells #[.string ⟨#[97]⟩, .string ⟨#[99]⟩] 9)).alloc (.cells M 95)).alloc (.cells #[.string ⟨#[]⟩, .slice (some ⟨w.heap.size, 0, none⟩) 2 2, .int .i64 0, .slice (some ⟨w.heap.size + 1, 0, none⟩) 2 2, .slice none 0 0, .slice none 0 0, .slice none 0 0, .slice none 0 0, .slice none 0 0, .slice none 0 0, .int .i64 0] 31)).alloc (.cells #[.int .i64 5, .int .i64 0, .int .i64 1900, .int .i64 0, .int .i64 100, .int .i64 401, .int .i64 930, .int .i64 0, .int .i64 (-1)] 33)).heap.size, 0, none⟩) RS.ls := (DealsAt.below h (below_new (((((w.alloc (.cells #[.string ⟨#[97]⟩, .string ⟨#[99]⟩] 9)).alloc (.cells M 95)).alloc (.cells #[.string ⟨#[]⟩, .slice (some ⟨w.heap.size, 0, none⟩) 2 2, .int .i64 0, .slice (some ⟨w.heap.size + 1, 0, none⟩) 2 2, .slice none 0 0, .slice none 0 0, .slice none 0 0, .slice none 0 0, .slice none 0 0, .slice none 0 0, .int .i64 0] 31)).alloc (.cells #[.int .i64 5, .int .i64 0, .int .i64 1900, .int .i64 0, .int .i64 100, .int .i64 401, .int .i64 930, .int .i64 0, .int .i64 (-1)] 33)).alloc (.cells #[.int .i64 0, .int .i64 0, .int .i64 5, .int .i64 0, .int .i64 1900, .int .i64 0, .int .i64 100, .int .i64 401, .int .i64 930, .int .i64 0, .int .i64 (-1), .int .i64 0, .int .i64 0, .int .i64 1, .int .i64 50, .int .i64 5, .int .i64 1, .int .i64 0, .int .i64 0, .int .i64 0, .int .i64 0, .int .i64 0, .int .i64 0, .int .i64 0, .int .i64 100, .int .i64 200, .int .i64 3, .int .i64 3000, .int .i64 5, .int .i64 0, .int .i64 0, .int .i64 0, .int .i64 0, .int .i64 0, .int .i64 0, .int .i64 0, .int .i64 0, .int .i64 180, .int .i64 0] 44)) _)).more (below_new (((((w.alloc (.cells #[.string ⟨#[97]⟩, .string ⟨#[99]⟩] 9)).alloc (.cells M 95)).alloc (.cells #[.string ⟨#[]⟩, .slice (some ⟨w.heap.size, 0, none⟩) 2 2, .int .i64 0, .slice (some ⟨w.heap.size + 1, 0, none⟩) 2 2, .slice none 0 0, .slice none 0 0, .slice none 0 0, .slice none 0 0, .slice none 0 0, .slice none 0 0, .int .i64 0] 31)).alloc (.cells #[.int .i64 5, .int .i64 0, .int .i64 1900, .int .i64 0, .int .i64 100, .int .i64 401, .int .i64 930, .int .i64 0, .int .i64 (-1)] 33)).alloc (.cells #[.int .i64 0, .int .i64 0, .int .i64 5, .int .i64 0, .int .i64 1900, .int .i64 0, .int .i64 100, .int .i64 401, .int .i64 930, .int .i64 0, .int .i64 (-1), .int .i64 0, .int .i64 0, .int .i64 1, .int .i64 50, .int .i64 5, .int .i64 1, .int .i64 0, .int .i64 0, .int .i64 0, .int .i64 0, .int .i64 0, .int .i64 0, .int .i64 0, .int .i64 100, .int .i64 200, .int .i64 3, .int .i64 3000, .int .i64 5, .int .i64 0, .int .i64 0, .int .i64 0, .int .i64 0, .int .i64 0, .int .i64 0, .int .i64 0, .int .i64 0, .int .i64 180, .int .i64 0] 44)) _).size
    simp only [World.size_alloc] at h2 ⊢
    exact h2
  have hM0 : Months W0 := hM.below hM.pos hB0
  rw [← hW0]
  have hs1 : w.heap.size + 6 ≤ W0.heap.size := by omega
  clear hW0 hmk hM hs0
  have KR1 : Hid (∀ wx, Below W0.heap.size W0 wx → Calls Tryd.prog 16 #[.agg #[.string ⟨#[]⟩, .slice (some ⟨w.heap.size, 0, none⟩) 2 2, .int .i64 0, .slice (some ⟨w.heap.size + 1, 0, none⟩) 2 2, .slice none 0 0, .slice none 0 0, .slice none 0 0, .slice none 0 0, .slice none 0 0, .slice none 0 0, .int .i64 0], .slice (some ⟨w.heap.size + 1 + 1 + 1 + 1, 0, none⟩) 3 3, .int .i64 100, .int .i64 10] wx (fun e w' => ∃ C cc, e = .returned (.slice C 1 cc) ∧ RightsAt w' w'.heap.size C [RS.r] ∧ Below wx.heap.size wx w')) := fun wx h =>
    roster_at ({ nm := ⟨#[]⟩, a1 := some ⟨w.heap.size, 0, none⟩, l1 := 2, c1 := 2, cl := 0, P := some ⟨w.heap.size + 1, 0, none⟩, cP := 2, a4 := none, l4 := 0, c4 := 0, a5 := none, l5 := 0, c5 := 0, a6 := none, l6 := 0, c6 := 0, a7 := none, l7 := 0, c7 := 0, a8 := none, l8 := 0, c8 := 0, a9 := none, l9 := 0, c9 := 0, er := 0 : Bas }) [(0, 0), (0, 0)] RS.ls (some ⟨w.heap.size + 1 + 1 + 1 + 1, 0, none⟩) 3 100 10 wx (B := W0.heap.size) (hM0.below hM0.pos h) (hds.below h) h.size (by decide) dls_in RS.R1
  have KR2 : Hid (∀ wx, Below W0.heap.size W0 wx → Calls Tryd.prog 16 #[.agg #[.string ⟨#[]⟩, .slice (some ⟨w.heap.size, 0, none⟩) 2 2, .int .i64 0, .slice (some ⟨w.heap.size + 1, 0, none⟩) 2 2, .slice none 0 0, .slice none 0 0, .slice none 0 0, .slice none 0 0, .slice none 0 0, .slice none 0 0, .int .i64 0], .slice (some ⟨w.heap.size + 1 + 1 + 1 + 1, 0, none⟩) 3 3, .int .i64 100, .int .i64 50] wx (fun e w' => ∃ C cc, e = .returned (.slice C 1 cc) ∧ RightsAt w' w'.heap.size C [RS.q] ∧ Below wx.heap.size wx w')) := fun wx h =>
    roster_at ({ nm := ⟨#[]⟩, a1 := some ⟨w.heap.size, 0, none⟩, l1 := 2, c1 := 2, cl := 0, P := some ⟨w.heap.size + 1, 0, none⟩, cP := 2, a4 := none, l4 := 0, c4 := 0, a5 := none, l5 := 0, c5 := 0, a6 := none, l6 := 0, c6 := 0, a7 := none, l7 := 0, c7 := 0, a8 := none, l8 := 0, c8 := 0, a9 := none, l9 := 0, c9 := 0, er := 0 : Bas }) [(0, 0), (0, 0)] RS.ls (some ⟨w.heap.size + 1 + 1 + 1 + 1, 0, none⟩) 3 100 50 wx (B := W0.heap.size) (hM0.below hM0.pos h) (hds.below h) h.size (by decide) dls_in RS.R2
  have KR3 : Hid (∀ wx, Below W0.heap.size W0 wx → Calls Tryd.prog 16 #[.agg #[.string ⟨#[]⟩, .slice (some ⟨w.heap.size, 0, none⟩) 2 2, .int .i64 0, .slice (some ⟨w.heap.size + 1, 0, none⟩) 2 2, .slice none 0 0, .slice none 0 0, .slice none 0 0, .slice none 0 0, .slice none 0 0, .slice none 0 0, .int .i64 0], .slice (some ⟨w.heap.size + 1 + 1 + 1 + 1, 0, none⟩) 3 3, .int .i64 20, .int .i64 50] wx (fun e w' => ∃ C cc, e = .returned (.slice C 0 cc) ∧ RightsAt w' w'.heap.size C ([] : List Rt) ∧ Below wx.heap.size wx w')) := fun wx h =>
    roster_at ({ nm := ⟨#[]⟩, a1 := some ⟨w.heap.size, 0, none⟩, l1 := 2, c1 := 2, cl := 0, P := some ⟨w.heap.size + 1, 0, none⟩, cP := 2, a4 := none, l4 := 0, c4 := 0, a5 := none, l5 := 0, c5 := 0, a6 := none, l6 := 0, c6 := 0, a7 := none, l7 := 0, c7 := 0, a8 := none, l8 := 0, c8 := 0, a9 := none, l9 := 0, c9 := 0, er := 0 : Bas }) [(0, 0), (0, 0)] RS.ls (some ⟨w.heap.size + 1 + 1 + 1 + 1, 0, none⟩) 3 20 50 wx (B := W0.heap.size) (hM0.below hM0.pos h) (hds.below h) h.size (by decide) dls_in RS.R3
  have KR4 : Hid (∀ wx, Below W0.heap.size W0 wx → Calls Tryd.prog 16 #[.agg #[.string ⟨#[]⟩, .slice (some ⟨w.heap.size, 0, none⟩) 2 2, .int .i64 0, .slice (some ⟨w.heap.size + 1, 0, none⟩) 2 2, .slice none 0 0, .slice none 0 0, .slice none 0 0, .slice none 0 0, .slice none 0 0, .slice none 0 0, .int .i64 0], .slice (some ⟨w.heap.size + 1 + 1 + 1 + 1, 0, none⟩) 3 3, .int .i64 190, .int .i64 2999] wx (fun e w' => ∃ C cc, e = .returned (.slice C 1 cc) ∧ RightsAt w' w'.heap.size C [RS.q] ∧ Below wx.heap.size wx w')) := fun wx h =>
    roster_at ({ nm := ⟨#[]⟩, a1 := some ⟨w.heap.size, 0, none⟩, l1 := 2, c1 := 2, cl := 0, P := some ⟨w.heap.size + 1, 0, none⟩, cP := 2, a4 := none, l4 := 0, c4 := 0, a5 := none, l5 := 0, c5 := 0, a6 := none, l6 := 0, c6 := 0, a7 := none, l7 := 0, c7 := 0, a8 := none, l8 := 0, c8 := 0, a9 := none, l9 := 0, c9 := 0, er := 0 : Bas }) [(0, 0), (0, 0)] RS.ls (some ⟨w.heap.size + 1 + 1 + 1 + 1, 0, none⟩) 3 190 2999 wx (B := W0.heap.size) (hM0.below hM0.pos h) (hds.below h) h.size (by decide) dls_in RS.R4
  have KR5 : Hid (∀ wx, Below W0.heap.size W0 wx → Calls Tryd.prog 16 #[.agg #[.string ⟨#[]⟩, .slice (some ⟨w.heap.size, 0, none⟩) 2 2, .int .i64 0, .slice (some ⟨w.heap.size + 1, 0, none⟩) 2 2, .slice none 0 0, .slice none 0 0, .slice none 0 0, .slice none 0 0, .slice none 0 0, .slice none 0 0, .int .i64 0], .slice (some ⟨w.heap.size + 1 + 1 + 1 + 1, 0, none⟩) 3 3, .int .i64 190, .int .i64 3000] wx (fun e w' => ∃ C cc, e = .returned (.slice C 0 cc) ∧ RightsAt w' w'.heap.size C ([] : List Rt) ∧ Below wx.heap.size wx w')) := fun wx h =>
    roster_at ({ nm := ⟨#[]⟩, a1 := some ⟨w.heap.size, 0, none⟩, l1 := 2, c1 := 2, cl := 0, P := some ⟨w.heap.size + 1, 0, none⟩, cP := 2, a4 := none, l4 := 0, c4 := 0, a5 := none, l5 := 0, c5 := 0, a6 := none, l6 := 0, c6 := 0, a7 := none, l7 := 0, c7 := 0, a8 := none, l8 := 0, c8 := 0, a9 := none, l9 := 0, c9 := 0, er := 0 : Bas }) [(0, 0), (0, 0)] RS.ls (some ⟨w.heap.size + 1 + 1 + 1 + 1, 0, none⟩) 3 190 3000 wx (B := W0.heap.size) (hM0.below hM0.pos h) (hds.below h) h.size (by decide) dls_in RS.R5
  have KS1 : Hid (∀ C c D d wx, RightsAt wx wx.heap.size C [RS.r] → RightsAt wx wx.heap.size D [RS.r] → Calls Tryd.prog 18 #[.slice C 1 c, .slice D 1 d] wx (fun e w' => e = .returned (.bool true) ∧ Below wx.heap.size wx w')) := fun C c D d wx h1 h2 =>
    (same_any [RS.r] [RS.r] C D c d wx h1 h2 (by decide) (by decide)).mono fun e w' ⟨h3, k, h4⟩ => ⟨by rw [h3]; exact congrArg (fun b => Ending.returned (.bool b)) (decide_eq_true rfl), by rw [h4]; exact below_drewN (Below.refl _ _) k⟩
  have KS2 : Hid (∀ C c D d wx, RightsAt wx wx.heap.size C [RS.q] → RightsAt wx wx.heap.size D [RS.q] → Calls Tryd.prog 18 #[.slice C 1 c, .slice D 1 d] wx (fun e w' => e = .returned (.bool true) ∧ Below wx.heap.size wx w')) := fun C c D d wx h1 h2 =>
    (same_any [RS.q] [RS.q] C D c d wx h1 h2 (by decide) (by decide)).mono fun e w' ⟨h3, k, h4⟩ => ⟨by rw [h3]; exact congrArg (fun b => Ending.returned (.bool b)) (decide_eq_true rfl), by rw [h4]; exact below_drewN (Below.refl _ _) k⟩
  have KS3 : Hid (∀ C c D d wx, RightsAt wx wx.heap.size C [RS.o3, RS.o2, RS.o1] → RightsAt wx wx.heap.size D [RS.o3, RS.o2, RS.o1] → Calls Tryd.prog 18 #[.slice C 3 c, .slice D 3 d] wx (fun e w' => e = .returned (.bool true) ∧ Below wx.heap.size wx w')) := fun C c D d wx h1 h2 =>
    (same_any [RS.o3, RS.o2, RS.o1] [RS.o3, RS.o2, RS.o1] C D c d wx h1 h2 (by decide) (by decide)).mono fun e w' ⟨h3, k, h4⟩ => ⟨by rw [h3]; exact congrArg (fun b => Ending.returned (.bool b)) (decide_eq_true rfl), by rw [h4]; exact below_drewN (Below.refl _ _) k⟩
  have KG1 : Hid (∀ wx, Below W0.heap.size W0 wx → Calls Tryd.prog 9 #[.agg #[.string ⟨#[]⟩, .slice (some ⟨w.heap.size, 0, none⟩) 2 2, .int .i64 0, .slice (some ⟨w.heap.size + 1, 0, none⟩) 2 2, .slice none 0 0, .slice none 0 0, .slice none 0 0, .slice none 0 0, .slice none 0 0, .slice none 0 0, .int .i64 0], .agg #[.int .i64 5, .int .i64 0, .int .i64 1900, .int .i64 0, .int .i64 100, .int .i64 401, .int .i64 930, .int .i64 0, .int .i64 (-1)]] wx (BoolIs true wx)) := fun wx h => right_at ({ nm := ⟨#[]⟩, a1 := some ⟨w.heap.size, 0, none⟩, l1 := 2, c1 := 2, cl := 0, P := some ⟨w.heap.size + 1, 0, none⟩, cP := 2, a4 := none, l4 := 0, c4 := 0, a5 := none, l5 := 0, c5 := 0, a6 := none, l6 := 0, c6 := 0, a7 := none, l7 := 0, c7 := 0, a8 := none, l8 := 0, c8 := 0, a9 := none, l9 := 0, c9 := 0, er := 0 : Bas }) [(0, 0), (0, 0)] RS.r wx (hM0.below hM0.pos h) rt_in_r RS.G1
  have KG0 : Hid (∀ wx, Below W0.heap.size W0 wx → Calls Tryd.prog 9 #[.agg #[.string ⟨#[]⟩, .slice none 0 0, .int .i64 0, .slice none 0 0, .slice none 0 0, .slice none 0 0, .slice none 0 0, .slice none 0 0, .slice none 0 0, .slice none 0 0, .int .i64 0], .agg #[.int .i64 5, .int .i64 0, .int .i64 1900, .int .i64 0, .int .i64 100, .int .i64 401, .int .i64 930, .int .i64 0, .int .i64 (-1)]] wx (BoolIs false wx)) := fun wx h => right_at ⟨⟨#[]⟩, none, 0, 0, 0, none, 0, none, 0, 0, none, 0, 0, none, 0, 0, none, 0, 0, none, 0, 0, none, 0, 0, 0⟩ [] RS.r wx (hM0.below hM0.pos h) rt_in_r RS.G0
  have KS10 : Hid (∀ wx, Below W0.heap.size W0 wx → Calls Tryd.prog 11 #[.agg #[.int .i64 5, .int .i64 0, .int .i64 1900, .int .i64 0, .int .i64 100, .int .i64 401, .int .i64 930, .int .i64 0, .int .i64 (-1)], .int .i64 100] wx (BoolIs true wx)) := fun wx h => season_at RS.r 100 wx (hM0.below hM0.pos h) rt_in_r RS.s100
  have KS20 : Hid (∀ wx, Below W0.heap.size W0 wx → Calls Tryd.prog 11 #[.agg #[.int .i64 5, .int .i64 0, .int .i64 1900, .int .i64 0, .int .i64 100, .int .i64 401, .int .i64 930, .int .i64 0, .int .i64 (-1)], .int .i64 20] wx (BoolIs false wx)) := fun wx h => season_at RS.r 20 wx (hM0.below hM0.pos h) rt_in_r RS.s20
  have KSn : Hid (∀ wx, Below W0.heap.size W0 wx → Calls Tryd.prog 11 #[.agg #[.int .i64 5, .int .i64 0, .int .i64 1900, .int .i64 0, .int .i64 100, .int .i64 401, .int .i64 930, .int .i64 0, .int .i64 (-1)], .int .i64 (-1)] wx (BoolIs false wx)) := fun wx h => season_at RS.r (-1) wx (hM0.below hM0.pos h) rt_in_r RS.sneg
  have KO : Hid (∀ C c wx, RightsAt wx wx.heap.size C [RS.o1, RS.o2, RS.o3] → Calls Tryd.prog 14 #[.slice C 3 c] wx (fun e w' => ∃ C cc, e = .returned (.slice C 3 cc) ∧ RightsAt w' w'.heap.size C [RS.o3, RS.o2, RS.o1] ∧ Below wx.heap.size wx w')) := fun C c wx h => order_at [RS.o1, RS.o2, RS.o3] C c wx h (by decide) RS.O1
  have REST6 : ∀ (v20 v21 v22 v23 v24 v25 v26 v27 v28 v29 v30 v31 v32 v33 : Value) (wx : World), Below W0.heap.size W0 wx → K0 { tmps := #[.bool false, .pointer (some ⟨w.heap.size + 1 + 1, 0, none⟩), .pointer (some ⟨w.heap.size + 1 + 1 + 1, 0, none⟩), .slice (some ⟨w.heap.size + 1 + 1 + 1 + 1, 0, none⟩) 3 3, .pointer (some ⟨w.heap.size + 1 + 1 + 1 + 1 + 1, 0, none⟩), .bool true, undef, .slice (some ⟨w.heap.size, 0, none⟩) 2 2, .slice (some ⟨w.heap.size + 1, 0, none⟩) 2 2, .agg #[.string ⟨#[]⟩, .slice (some ⟨w.heap.size, 0, none⟩) 2 2, .int .i64 0, .slice (some ⟨w.heap.size + 1, 0, none⟩) 2 2, .slice none 0 0, .slice none 0 0, .slice none 0 0, .slice none 0 0, .slice none 0 0, .slice none 0 0, .int .i64 0], .agg #[.int .i64 5, .int .i64 0, .int .i64 1900, .int .i64 0, .int .i64 100, .int .i64 401, .int .i64 930, .int .i64 0, .int .i64 (-1)], .agg #[.int .i64 5, .int .i64 0, .int .i64 1900, .int .i64 0, .int .i64 100, .int .i64 401, .int .i64 930, .int .i64 0, .int .i64 (-1)], .agg #[.int .i64 0, .int .i64 0, .int .i64 5, .int .i64 0, .int .i64 1900, .int .i64 0, .int .i64 100, .int .i64 401, .int .i64 930, .int .i64 0, .int .i64 (-1), .int .i64 0, .int .i64 0], .agg #[.int .i64 5, .int .i64 1, .int .i64 0, .int .i64 0, .int .i64 0, .int .i64 0, .int .i64 0, .int .i64 0, .int .i64 0], .agg #[.int .i64 1, .int .i64 50, .int .i64 5, .int .i64 1, .int .i64 0, .int .i64 0, .int .i64 0, .int .i64 0, .int .i64 0, .int .i64 0, .int .i64 0, .int .i64 100, .int .i64 200], .agg #[.int .i64 5, .int .i64 0, .int .i64 0, .int .i64 0, .int .i64 0, .int .i64 0, .int .i64 0, .int .i64 0, .int .i64 0], .agg #[.int .i64 3, .int .i64 3000, .int .i64 5, .int .i64 0, .int .i64 0, .int .i64 0, .int .i64 0, .int .i64 0, .int .i64 0, .int .i64 0, .int .i64 0, .int .i64 180, .int .i64 0], .slice (some ⟨w.heap.size + 1 + 1 + 1 + 1, 0, none⟩) 3 3, .agg #[.int .i64 5, .int .i64 0, .int .i64 1900, .int .i64 0, .int .i64 100, .int .i64 401, .int .i64 930, .int .i64 0, .int .i64 (-1)], .pointer (some ⟨w.heap.size + 1 + 1 + 1 + 1 + 1, 1, none⟩), v20, v21, v22, v23, v24, v25, v26, v27, v28, v29, v30, v31, v32, v33, undef, undef, undef, undef, undef, undef, undef, undef, undef, undef, undef, undef, undef, undef, undef, undef, undef, undef, undef, undef, undef, undef, undef, undef, undef, undef, undef, undef, undef, undef, undef, undef, undef, undef, undef, undef, undef, undef, undef, undef, undef, undef, undef, undef, undef, undef, undef, undef, undef, undef, undef, undef, undef, undef, undef, undef, undef, undef, undef, undef, undef], defers := [] } wx := by
    intro v20 v21 v22 v23 v24 v25 v26 v27 v28 v29 v30 v31 v32 v33 wx HB
    refine hK0 _ _ ?_
    clear hK0
    go_wp2_with fail
    rename_i K1 hK1
    have REST7 : ∀ (v34 v35 v36 v37 v38 v39 v40 v41 v42 v43 v44 v45 v46 v47 v48 v49 v50 v51 v52 v53 : Value) (wy : World), Below W0.heap.size W0 wy → K1 { tmps := #[.bool false, .pointer (some ⟨w.heap.size + 1 + 1, 0, none⟩), .pointer (some ⟨w.heap.size + 1 + 1 + 1, 0, none⟩), .slice (some ⟨w.heap.size + 1 + 1 + 1 + 1, 0, none⟩) 3 3, .pointer (some ⟨w.heap.size + 1 + 1 + 1 + 1 + 1, 0, none⟩), .bool true, .bool true, .slice (some ⟨w.heap.size, 0, none⟩) 2 2, .slice (some ⟨w.heap.size + 1, 0, none⟩) 2 2, .agg #[.string ⟨#[]⟩, .slice (some ⟨w.heap.size, 0, none⟩) 2 2, .int .i64 0, .slice (some ⟨w.heap.size + 1, 0, none⟩) 2 2, .slice none 0 0, .slice none 0 0, .slice none 0 0, .slice none 0 0, .slice none 0 0, .slice none 0 0, .int .i64 0], .agg #[.int .i64 5, .int .i64 0, .int .i64 1900, .int .i64 0, .int .i64 100, .int .i64 401, .int .i64 930, .int .i64 0, .int .i64 (-1)], .agg #[.int .i64 5, .int .i64 0, .int .i64 1900, .int .i64 0, .int .i64 100, .int .i64 401, .int .i64 930, .int .i64 0, .int .i64 (-1)], .agg #[.int .i64 0, .int .i64 0, .int .i64 5, .int .i64 0, .int .i64 1900, .int .i64 0, .int .i64 100, .int .i64 401, .int .i64 930, .int .i64 0, .int .i64 (-1), .int .i64 0, .int .i64 0], .agg #[.int .i64 5, .int .i64 1, .int .i64 0, .int .i64 0, .int .i64 0, .int .i64 0, .int .i64 0, .int .i64 0, .int .i64 0], .agg #[.int .i64 1, .int .i64 50, .int .i64 5, .int .i64 1, .int .i64 0, .int .i64 0, .int .i64 0, .int .i64 0, .int .i64 0, .int .i64 0, .int .i64 0, .int .i64 100, .int .i64 200], .agg #[.int .i64 5, .int .i64 0, .int .i64 0, .int .i64 0, .int .i64 0, .int .i64 0, .int .i64 0, .int .i64 0, .int .i64 0], .agg #[.int .i64 3, .int .i64 3000, .int .i64 5, .int .i64 0, .int .i64 0, .int .i64 0, .int .i64 0, .int .i64 0, .int .i64 0, .int .i64 0, .int .i64 0, .int .i64 180, .int .i64 0], .slice (some ⟨w.heap.size + 1 + 1 + 1 + 1, 0, none⟩) 3 3, .agg #[.int .i64 5, .int .i64 0, .int .i64 1900, .int .i64 0, .int .i64 100, .int .i64 401, .int .i64 930, .int .i64 0, .int .i64 (-1)], .pointer (some ⟨w.heap.size + 1 + 1 + 1 + 1 + 1, 1, none⟩), v20, v21, v22, v23, v24, v25, v26, v27, v28, v29, v30, v31, v32, v33, v34, v35, v36, v37, v38, v39, v40, v41, v42, v43, v44, v45, v46, v47, v48, v49, v50, v51, v52, v53, undef, undef, undef, undef, undef, undef, undef, undef, undef, undef, undef, undef, undef, undef, undef, undef, undef, undef, undef, undef, undef, undef, undef, undef, undef, undef, undef, undef, undef, undef, undef, undef, undef, undef, undef, undef, undef, undef, undef, undef, undef], defers := [] } wy := by
      clear HB
      intro v34 v35 v36 v37 v38 v39 v40 v41 v42 v43 v44 v45 v46 v47 v48 v49 v50 v51 v52 v53 wy HB
      refine hK1 _ _ ?_
      clear hK1
      obtain ⟨x0, x1, x2, x3, x4, x5, x6, x7, x8, x9, x10⟩ := (hbx.below HB (by omega)).cells
      obtain ⟨r0, r1, r2, r3, r4, r5, r6, r7, r8⟩ := (hbr.below HB (by omega)).cells
      obtain ⟨q0, q1, q2, q3, q4, q5, q6, q7, q8⟩ := (hbq.below HB (by omega)).cells
      dsimp only at x0 x1 x2 x3 x4 x5 x6 x7 x8 x9 x10
      dsimp only [RS.r] at r0 r1 r2 r3 r4 r5 r6 r7 r8
      dsimp only [RS.q] at q0 q1 q2 q3 q4 q5 q6 q7 q8
      have zz := HB.size
      have y0 : w.heap.size + 1 + 1 < wy.heap.size := by omega
      have y1 : w.heap.size + 1 + 1 + 1 < wy.heap.size := by omega
      have y2 : w.heap.size + 1 + 1 + 1 + 1 < wy.heap.size := by omega
      have y3 : w.heap.size + 1 + 1 + 1 + 1 + 1 < wy.heap.size := by omega
      have y4 : w.heap.size ≤ wy.heap.size := by omega
      go_wp2_with fail
      go_at_call 9
      (with_reducible refine (KG1.out _ HB).mono ?_)
      rintro e60 w60 ⟨rfl, hb60⟩
      replace HB := HB.trans (hb60.mono HB.size)
      clear hb60
      obtain ⟨x0, x1, x2, x3, x4, x5, x6, x7, x8, x9, x10⟩ := (hbx.below HB (by omega)).cells
      obtain ⟨r0, r1, r2, r3, r4, r5, r6, r7, r8⟩ := (hbr.below HB (by omega)).cells
      obtain ⟨q0, q1, q2, q3, q4, q5, q6, q7, q8⟩ := (hbq.below HB (by omega)).cells
      dsimp only at x0 x1 x2 x3 x4 x5 x6 x7 x8 x9 x10
      dsimp only [RS.r] at r0 r1 r2 r3 r4 r5 r6 r7 r8
      dsimp only [RS.q] at q0 q1 q2 q3 q4 q5 q6 q7 q8
      have zz := HB.size
      have y0 : w.heap.size + 1 + 1 < w60.heap.size := by omega
      have y1 : w.heap.size + 1 + 1 + 1 < w60.heap.size := by omega
      have y2 : w.heap.size + 1 + 1 + 1 + 1 < w60.heap.size := by omega
      have y3 : w.heap.size + 1 + 1 + 1 + 1 + 1 < w60.heap.size := by omega
      have y4 : w.heap.size ≤ w60.heap.size := by omega
      go_wp2_with fail
      go_at_call 9
      (with_reducible refine (KG0.out _ HB).mono ?_)
      rintro e61 w61 ⟨rfl, hb61⟩
      replace HB := HB.trans (hb61.mono HB.size)
      clear hb61
      obtain ⟨x0, x1, x2, x3, x4, x5, x6, x7, x8, x9, x10⟩ := (hbx.below HB (by omega)).cells
      obtain ⟨r0, r1, r2, r3, r4, r5, r6, r7, r8⟩ := (hbr.below HB (by omega)).cells
      obtain ⟨q0, q1, q2, q3, q4, q5, q6, q7, q8⟩ := (hbq.below HB (by omega)).cells
      dsimp only at x0 x1 x2 x3 x4 x5 x6 x7 x8 x9 x10
      dsimp only [RS.r] at r0 r1 r2 r3 r4 r5 r6 r7 r8
      dsimp only [RS.q] at q0 q1 q2 q3 q4 q5 q6 q7 q8
      have zz := HB.size
      have y0 : w.heap.size + 1 + 1 < w61.heap.size := by omega
      have y1 : w.heap.size + 1 + 1 + 1 < w61.heap.size := by omega
      have y2 : w.heap.size + 1 + 1 + 1 + 1 < w61.heap.size := by omega
      have y3 : w.heap.size + 1 + 1 + 1 + 1 + 1 < w61.heap.size := by omega
      have y4 : w.heap.size ≤ w61.heap.size := by omega
      go_wp2_with fail
      go_at_call 11
      (with_reducible refine (KS10.out _ HB).mono ?_)
      rintro e62 w62 ⟨rfl, hb62⟩
      replace HB := HB.trans (hb62.mono HB.size)
      clear hb62
      obtain ⟨x0, x1, x2, x3, x4, x5, x6, x7, x8, x9, x10⟩ := (hbx.below HB (by omega)).cells
      obtain ⟨r0, r1, r2, r3, r4, r5, r6, r7, r8⟩ := (hbr.below HB (by omega)).cells
      obtain ⟨q0, q1, q2, q3, q4, q5, q6, q7, q8⟩ := (hbq.below HB (by omega)).cells
      dsimp only at x0 x1 x2 x3 x4 x5 x6 x7 x8 x9 x10
      dsimp only [RS.r] at r0 r1 r2 r3 r4 r5 r6 r7 r8
      dsimp only [RS.q] at q0 q1 q2 q3 q4 q5 q6 q7 q8
      have zz := HB.size
      have y0 : w.heap.size + 1 + 1 < w62.heap.size := by omega
      have y1 : w.heap.size + 1 + 1 + 1 < w62.heap.size := by omega
      have y2 : w.heap.size + 1 + 1 + 1 + 1 < w62.heap.size := by omega
      have y3 : w.heap.size + 1 + 1 + 1 + 1 + 1 < w62.heap.size := by omega
      have y4 : w.heap.size ≤ w62.heap.size := by omega
      go_wp2_with fail
      go_at_call 11
      (with_reducible refine (KS20.out _ HB).mono ?_)
      rintro e63 w63 ⟨rfl, hb63⟩
      replace HB := HB.trans (hb63.mono HB.size)
      clear hb63
      obtain ⟨x0, x1, x2, x3, x4, x5, x6, x7, x8, x9, x10⟩ := (hbx.below HB (by omega)).cells
      obtain ⟨r0, r1, r2, r3, r4, r5, r6, r7, r8⟩ := (hbr.below HB (by omega)).cells
      obtain ⟨q0, q1, q2, q3, q4, q5, q6, q7, q8⟩ := (hbq.below HB (by omega)).cells
      dsimp only at x0 x1 x2 x3 x4 x5 x6 x7 x8 x9 x10
      dsimp only [RS.r] at r0 r1 r2 r3 r4 r5 r6 r7 r8
      dsimp only [RS.q] at q0 q1 q2 q3 q4 q5 q6 q7 q8
      have zz := HB.size
      have y0 : w.heap.size + 1 + 1 < w63.heap.size := by omega
      have y1 : w.heap.size + 1 + 1 + 1 < w63.heap.size := by omega
      have y2 : w.heap.size + 1 + 1 + 1 + 1 < w63.heap.size := by omega
      have y3 : w.heap.size + 1 + 1 + 1 + 1 + 1 < w63.heap.size := by omega
      have y4 : w.heap.size ≤ w63.heap.size := by omega
      go_wp2_with fail
      go_at_call 11
      (with_reducible refine (KSn.out _ HB).mono ?_)
      rintro e64 w64 ⟨rfl, hb64⟩
      replace HB := HB.trans (hb64.mono HB.size)
      clear hb64
      obtain ⟨x0, x1, x2, x3, x4, x5, x6, x7, x8, x9, x10⟩ := (hbx.below HB (by omega)).cells
      obtain ⟨r0, r1, r2, r3, r4, r5, r6, r7, r8⟩ := (hbr.below HB (by omega)).cells
      obtain ⟨q0, q1, q2, q3, q4, q5, q6, q7, q8⟩ := (hbq.below HB (by omega)).cells
      dsimp only at x0 x1 x2 x3 x4 x5 x6 x7 x8 x9 x10
      dsimp only [RS.r] at r0 r1 r2 r3 r4 r5 r6 r7 r8
      dsimp only [RS.q] at q0 q1 q2 q3 q4 q5 q6 q7 q8
      have zz := HB.size
      have y0 : w.heap.size + 1 + 1 < w64.heap.size := by omega
      have y1 : w.heap.size + 1 + 1 + 1 < w64.heap.size := by omega
      have y2 : w.heap.size + 1 + 1 + 1 + 1 < w64.heap.size := by omega
      have y3 : w.heap.size + 1 + 1 + 1 + 1 + 1 < w64.heap.size := by omega
      have y4 : w.heap.size ≤ w64.heap.size := by omega
      go_wp2_with fail
      have n1 : RightsAt (w64.alloc (.cells #[.int .i64 0, .int .i64 0, .int .i64 2, .int .i64 0, .int .i64 0, .int .i64 0, .int .i64 0, .int .i64 0, .int .i64 0, .int .i64 4, .int .i64 0, .int .i64 1, .int .i64 0, .int .i64 0, .int .i64 0, .int .i64 0, .int .i64 0, .int .i64 0, .int .i64 3, .int .i64 0, .int .i64 1, .int .i64 0, .int .i64 0, .int .i64 0, .int .i64 0, .int .i64 0, .int .i64 0] 33)) (w64.alloc (.cells #[.int .i64 0, .int .i64 0, .int .i64 2, .int .i64 0, .int .i64 0, .int .i64 0, .int .i64 0, .int .i64 0, .int .i64 0, .int .i64 4, .int .i64 0, .int .i64 1, .int .i64 0, .int .i64 0, .int .i64 0, .int .i64 0, .int .i64 0, .int .i64 0, .int .i64 3, .int .i64 0, .int .i64 1, .int .i64 0, .int .i64 0, .int .i64 0, .int .i64 0, .int .i64 0, .int .i64 0] 33)).heap.size (some ⟨w64.heap.size, 0, none⟩) [RS.o1, RS.o2, RS.o3] := rowk_new rt_len w64 [RS.o1, RS.o2, RS.o3] 33
      go_at_call 14
      (with_reducible refine (KO.out _ _ _ n1).mono ?_)
      rintro e70 w70 ⟨C70, c70, rfl, hC70, hb70⟩
      have HB1 : Below w.heap.size w w70 := ((hB0.trans (HB.mono hB0.size)).alloc (by omega) _).trans (hb70.mono (by simp; omega))
      have n2 : RightsAt (w70.alloc (.cells #[.int .i64 3, .int .i64 0, .int .i64 1, .int .i64 0, .int .i64 0, .int .i64 0, .int .i64 0, .int .i64 0, .int .i64 0, .int .i64 4, .int .i64 0, .int .i64 1, .int .i64 0, .int .i64 0, .int .i64 0, .int .i64 0, .int .i64 0, .int .i64 0, .int .i64 0, .int .i64 0, .int .i64 2, .int .i64 0, .int .i64 0, .int .i64 0, .int .i64 0, .int .i64 0, .int .i64 0] 33)) (w70.alloc (.cells #[.int .i64 3, .int .i64 0, .int .i64 1, .int .i64 0, .int .i64 0, .int .i64 0, .int .i64 0, .int .i64 0, .int .i64 0, .int .i64 4, .int .i64 0, .int .i64 1, .int .i64 0, .int .i64 0, .int .i64 0, .int .i64 0, .int .i64 0, .int .i64 0, .int .i64 0, .int .i64 0, .int .i64 2, .int .i64 0, .int .i64 0, .int .i64 0, .int .i64 0, .int .i64 0, .int .i64 0] 33)).heap.size (some ⟨w70.heap.size, 0, none⟩) [RS.o3, RS.o2, RS.o1] := rowk_new rt_len w70 [RS.o3, RS.o2, RS.o1] 33
      have m2 := (RightsAt.below hC70 (below_new w70 (.cells #[.int .i64 3, .int .i64 0, .int .i64 1, .int .i64 0, .int .i64 0, .int .i64 0, .int .i64 0, .int .i64 0, .int .i64 0, .int .i64 4, .int .i64 0, .int .i64 1, .int .i64 0, .int .i64 0, .int .i64 0, .int .i64 0, .int .i64 0, .int .i64 0, .int .i64 0, .int .i64 0, .int .i64 2, .int .i64 0, .int .i64 0, .int .i64 0, .int .i64 0, .int .i64 0, .int .i64 0] 33))).more (below_new w70 (.cells #[.int .i64 3, .int .i64 0, .int .i64 1, .int .i64 0, .int .i64 0, .int .i64 0, .int .i64 0, .int .i64 0, .int .i64 0, .int .i64 4, .int .i64 0, .int .i64 1, .int .i64 0, .int .i64 0, .int .i64 0, .int .i64 0, .int .i64 0, .int .i64 0, .int .i64 0, .int .i64 0, .int .i64 2, .int .i64 0, .int .i64 0, .int .i64 0, .int .i64 0, .int .i64 0, .int .i64 0] 33)).size
      go_wp2_with fail
      go_at_call 18
      (with_reducible refine (KS3.out _ _ _ _ _ m2 n2).mono ?_)
      rintro e71 w71 ⟨rfl, hb71⟩
      go_wp2_with fail
      go_ret
      exact ⟨rfl, (HB1.alloc HB1.size _).trans (hb71.mono (by simp; have := HB1.size; omega))⟩

    clear hK1
    obtain ⟨x0, x1, x2, x3, x4, x5, x6, x7, x8, x9, x10⟩ := (hbx.below HB (by omega)).cells
    obtain ⟨r0, r1, r2, r3, r4, r5, r6, r7, r8⟩ := (hbr.below HB (by omega)).cells
    obtain ⟨q0, q1, q2, q3, q4, q5, q6, q7, q8⟩ := (hbq.below HB (by omega)).cells
    dsimp only at x0 x1 x2 x3 x4 x5 x6 x7 x8 x9 x10
    dsimp only [RS.r] at r0 r1 r2 r3 r4 r5 r6 r7 r8
    dsimp only [RS.q] at q0 q1 q2 q3 q4 q5 q6 q7 q8
    have zz := HB.size
    have y0 : w.heap.size + 1 + 1 < wx.heap.size := by omega
    have y1 : w.heap.size + 1 + 1 + 1 < wx.heap.size := by omega
    have y2 : w.heap.size + 1 + 1 + 1 + 1 < wx.heap.size := by omega
    have y3 : w.heap.size + 1 + 1 + 1 + 1 + 1 < wx.heap.size := by omega
    have y4 : w.heap.size ≤ wx.heap.size := by omega
    refine Plan.wp_region_tree (.rd 0 (.rd 1 (.wr 2 (.rd 3 (.rd 4 (.rd 5 (.rd 6 (.rd 7 (.rd 9 (.two 8 (.wr 10 (.wr 11 (.rd 12 (.rd 13 (.rd 14 (.rd 15 (.wr 16 (.rd 17 (.rd 18 (.rd 19 (.rd 20 .done))))))))))) 10 (.wr 8 (.wr 11 (.rd 12 (.rd 13 (.rd 14 (.rd 15 (.wr 16 (.rd 17 (.rd 18 (.rd 19 (.rd 20 .done))))))))))))))))))))) (by kernel_rfl) (by kernel_rfl) ?_
    (repeat (first | (refine Plan.tree_read (v := ?_) rfl rfl ?_ ?_; rotate_left; (focus ((intro wS hSw; have hkS := (bcell hSw).1; go_simp); try with_reducible rfl)); simp only [Act.put, List.setIfInBounds_toArray, List.set_cons_zero, List.set_cons_succ]) | (refine Plan.tree_skip rfl rfl ?_; simp only [Act.put, List.setIfInBounds_toArray, List.set_cons_zero, List.set_cons_succ])))
    (refine Plan.tree_write rfl (fun K hK => ?_); try go_simp)
    go_at_call 16
    (with_reducible refine (KR3.out _ (HB.trans ((Below.refl _ _ : Below wx.heap.size wx wx).drew.mono HB.size))).mono ?_)
    rintro e30 w30 ⟨C30, c30, rfl, hC30, hb30⟩
    have k30 : Below wx.heap.size wx w30 := (Below.refl _ _ : Below wx.heap.size wx wx).drew.trans (hb30.mono (Below.refl _ _ : Below wx.heap.size wx wx).drew.size)
    (refine hK.out _ _ (k30) ?_; clear hK K; try simp only [Act.put, List.setIfInBounds_toArray, List.set_cons_zero, List.set_cons_succ])
    (repeat (first | (refine Plan.tree_read (v := ?_) rfl rfl ?_ ?_; rotate_left; (focus ((intro wS hSw; have hkS := (bcell hSw).1; go_simp); try with_reducible rfl)); simp only [Act.put, List.setIfInBounds_toArray, List.set_cons_zero, List.set_cons_succ]) | (refine Plan.tree_skip rfl rfl ?_; simp only [Act.put, List.setIfInBounds_toArray, List.set_cons_zero, List.set_cons_succ])))
    refine Plan.tree_two rfl rfl (fun K hK => ?_) (fun K hK => ?_)
    · (try go_simp)
      go_at_call 16
      (with_reducible refine (KR4.out _ (HB.trans (k30.mono HB.size))).mono ?_)
      rintro e32 w32 ⟨C32, c32, rfl, hC32, hb32⟩
      have k32 : Below wx.heap.size wx w32 := k30.trans (hb32.mono k30.size)
      (refine hK.out _ _ (k32) ?_; clear hK K; try simp only [Act.put, List.setIfInBounds_toArray, List.set_cons_zero, List.set_cons_succ])
      (repeat (first | (refine Plan.tree_read (v := ?_) rfl rfl ?_ ?_; rotate_left; (focus ((intro wS hSw; have hkS := (bcell hSw).1; go_simp); try with_reducible rfl)); simp only [Act.put, List.setIfInBounds_toArray, List.set_cons_zero, List.set_cons_succ]) | (refine Plan.tree_skip rfl rfl ?_; simp only [Act.put, List.setIfInBounds_toArray, List.set_cons_zero, List.set_cons_succ])))
      (refine Plan.tree_write rfl (fun K hK => ?_); try go_simp)
      have k32b : Below wx.heap.size wx (w32.alloc (.cells #[.int .i64 5, .int .i64 1, .int .i64 1900, .int .i64 0, .int .i64 100, .int .i64 401, .int .i64 930, .int .i64 0, .int .i64 (-1)] 33)) := k32.alloc k32.size _
      have n32 : RightsAt (w32.alloc (.cells #[.int .i64 5, .int .i64 1, .int .i64 1900, .int .i64 0, .int .i64 100, .int .i64 401, .int .i64 930, .int .i64 0, .int .i64 (-1)] 33)) (w32.alloc (.cells #[.int .i64 5, .int .i64 1, .int .i64 1900, .int .i64 0, .int .i64 100, .int .i64 401, .int .i64 930, .int .i64 0, .int .i64 (-1)] 33)).heap.size (some ⟨w32.heap.size, 0, none⟩) [RS.q] := rowk_new rt_len w32 [RS.q] 33
      have m32 := (RightsAt.below hC32 (below_new w32 (.cells #[.int .i64 5, .int .i64 1, .int .i64 1900, .int .i64 0, .int .i64 100, .int .i64 401, .int .i64 930, .int .i64 0, .int .i64 (-1)] 33))).more (below_new w32 (.cells #[.int .i64 5, .int .i64 1, .int .i64 1900, .int .i64 0, .int .i64 100, .int .i64 401, .int .i64 930, .int .i64 0, .int .i64 (-1)] 33)).size
      (refine hK.out _ _ (k32b) ?_; clear hK K; try simp only [Act.put, List.setIfInBounds_toArray, List.set_cons_zero, List.set_cons_succ])
      (repeat (first | (refine Plan.tree_read (v := ?_) rfl rfl ?_ ?_; rotate_left; (focus ((intro wS hSw; have hkS := (bcell hSw).1; go_simp); try with_reducible rfl)); simp only [Act.put, List.setIfInBounds_toArray, List.set_cons_zero, List.set_cons_succ]) | (refine Plan.tree_skip rfl rfl ?_; simp only [Act.put, List.setIfInBounds_toArray, List.set_cons_zero, List.set_cons_succ])))
      (refine Plan.tree_write rfl (fun K hK => ?_); try go_simp)
      go_at_call 18
      (with_reducible refine (KS2.out _ _ _ _ _ m32 n32).mono ?_)
      rintro e33 w33 ⟨rfl, hb33⟩
      have k33 : Below wx.heap.size wx w33 := k32b.trans (hb33.mono k32b.size)
      (refine hK.out _ _ (k33) ?_; clear hK K; try simp only [Act.put, List.setIfInBounds_toArray, List.set_cons_zero, List.set_cons_succ])
      (repeat (first | (refine Plan.tree_read (v := ?_) rfl rfl ?_ ?_; rotate_left; (focus ((intro wS hSw; have hkS := (bcell hSw).1; go_simp); try with_reducible rfl)); simp only [Act.put, List.setIfInBounds_toArray, List.set_cons_zero, List.set_cons_succ]) | (refine Plan.tree_skip rfl rfl ?_; simp only [Act.put, List.setIfInBounds_toArray, List.set_cons_zero, List.set_cons_succ])))
      (refine Plan.tree_write rfl (fun K hK => ?_); try go_simp)
      go_at_call 16
      (with_reducible refine (KR5.out _ (HB.trans (k33.mono HB.size))).mono ?_)
      rintro e36 w36 ⟨C36, c36, rfl, hC36, hb36⟩
      have k36 : Below wx.heap.size wx w36 := k33.trans (hb36.mono k33.size)
      (refine hK.out _ _ (k36) ?_; clear hK K; try simp only [Act.put, List.setIfInBounds_toArray, List.set_cons_zero, List.set_cons_succ])
      (repeat (first | (refine Plan.tree_read (v := ?_) rfl rfl ?_ ?_; rotate_left; (focus ((intro wS hSw; have hkS := (bcell hSw).1; go_simp); try with_reducible rfl)); simp only [Act.put, List.setIfInBounds_toArray, List.set_cons_zero, List.set_cons_succ]) | (refine Plan.tree_skip rfl rfl ?_; simp only [Act.put, List.setIfInBounds_toArray, List.set_cons_zero, List.set_cons_succ])))
      refine Plan.tree_done ?_
      exact REST7 _ _ _ _ _ _ _ _ _ _ _ _ _ _ _ _ _ _ _ _ w36 (HB.trans (k36.mono HB.size))
    · (try go_simp)
      have k32b : Below wx.heap.size wx (w30.alloc (.cells #[.int .i64 5, .int .i64 1, .int .i64 1900, .int .i64 0, .int .i64 100, .int .i64 401, .int .i64 930, .int .i64 0, .int .i64 (-1)] 33)) := k30.alloc k30.size _
      have n32 : RightsAt (w30.alloc (.cells #[.int .i64 5, .int .i64 1, .int .i64 1900, .int .i64 0, .int .i64 100, .int .i64 401, .int .i64 930, .int .i64 0, .int .i64 (-1)] 33)) (w30.alloc (.cells #[.int .i64 5, .int .i64 1, .int .i64 1900, .int .i64 0, .int .i64 100, .int .i64 401, .int .i64 930, .int .i64 0, .int .i64 (-1)] 33)).heap.size (some ⟨w30.heap.size, 0, none⟩) [RS.q] := rowk_new rt_len w30 [RS.q] 33
      (refine hK.out _ _ (k32b) ?_; clear hK K; try simp only [Act.put, List.setIfInBounds_toArray, List.set_cons_zero, List.set_cons_succ])
      (repeat (first | (refine Plan.tree_read (v := ?_) rfl rfl ?_ ?_; rotate_left; (focus ((intro wS hSw; have hkS := (bcell hSw).1; go_simp); try with_reducible rfl)); simp only [Act.put, List.setIfInBounds_toArray, List.set_cons_zero, List.set_cons_succ]) | (refine Plan.tree_skip rfl rfl ?_; simp only [Act.put, List.setIfInBounds_toArray, List.set_cons_zero, List.set_cons_succ])))
      (refine Plan.tree_write rfl (fun K hK => ?_); try go_simp)
      go_at_call 16
      (with_reducible refine (KR4.out _ (HB.trans (k32b.mono HB.size))).mono ?_)
      rintro e32 w32 ⟨C32, c32, rfl, hC32, hb32⟩
      have k32 : Below wx.heap.size wx w32 := k32b.trans (hb32.mono k32b.size)
      (refine hK.out _ _ (k32) ?_; clear hK K; try simp only [Act.put, List.setIfInBounds_toArray, List.set_cons_zero, List.set_cons_succ])
      (repeat (first | (refine Plan.tree_read (v := ?_) rfl rfl ?_ ?_; rotate_left; (focus ((intro wS hSw; have hkS := (bcell hSw).1; go_simp); try with_reducible rfl)); simp only [Act.put, List.setIfInBounds_toArray, List.set_cons_zero, List.set_cons_succ]) | (refine Plan.tree_skip rfl rfl ?_; simp only [Act.put, List.setIfInBounds_toArray, List.set_cons_zero, List.set_cons_succ])))
      (refine Plan.tree_write rfl (fun K hK => ?_); try go_simp)
      have m32 := (RightsAt.below n32 hb32).more hb32.size
      go_at_call 18
      (with_reducible refine (KS2.out _ _ _ _ _ hC32 m32).mono ?_)
      rintro e33 w33 ⟨rfl, hb33⟩
      have k33 : Below wx.heap.size wx w33 := k32.trans (hb33.mono k32.size)
      (refine hK.out _ _ (k33) ?_; clear hK K; try simp only [Act.put, List.setIfInBounds_toArray, List.set_cons_zero, List.set_cons_succ])
      (repeat (first | (refine Plan.tree_read (v := ?_) rfl rfl ?_ ?_; rotate_left; (focus ((intro wS hSw; have hkS := (bcell hSw).1; go_simp); try with_reducible rfl)); simp only [Act.put, List.setIfInBounds_toArray, List.set_cons_zero, List.set_cons_succ]) | (refine Plan.tree_skip rfl rfl ?_; simp only [Act.put, List.setIfInBounds_toArray, List.set_cons_zero, List.set_cons_succ])))
      (refine Plan.tree_write rfl (fun K hK => ?_); try go_simp)
      go_at_call 16
      (with_reducible refine (KR5.out _ (HB.trans (k33.mono HB.size))).mono ?_)
      rintro e36 w36 ⟨C36, c36, rfl, hC36, hb36⟩
      have k36 : Below wx.heap.size wx w36 := k33.trans (hb36.mono k33.size)
      (refine hK.out _ _ (k36) ?_; clear hK K; try simp only [Act.put, List.setIfInBounds_toArray, List.set_cons_zero, List.set_cons_succ])
      (repeat (first | (refine Plan.tree_read (v := ?_) rfl rfl ?_ ?_; rotate_left; (focus ((intro wS hSw; have hkS := (bcell hSw).1; go_simp); try with_reducible rfl)); simp only [Act.put, List.setIfInBounds_toArray, List.set_cons_zero, List.set_cons_succ]) | (refine Plan.tree_skip rfl rfl ?_; simp only [Act.put, List.setIfInBounds_toArray, List.set_cons_zero, List.set_cons_succ])))
      refine Plan.tree_done ?_
      exact REST7 _ _ _ _ _ _ _ _ _ _ _ _ _ _ _ _ _ _ _ _ w36 (HB.trans (k36.mono HB.size))
  have HB := (Below.refl W0.heap.size W0)
  obtain ⟨x0, x1, x2, x3, x4, x5, x6, x7, x8, x9, x10⟩ := (hbx.below HB (by omega)).cells
  obtain ⟨r0, r1, r2, r3, r4, r5, r6, r7, r8⟩ := (hbr.below HB (by omega)).cells
  obtain ⟨q0, q1, q2, q3, q4, q5, q6, q7, q8⟩ := (hbq.below HB (by omega)).cells
  dsimp only at x0 x1 x2 x3 x4 x5 x6 x7 x8 x9 x10
  dsimp only [RS.r] at r0 r1 r2 r3 r4 r5 r6 r7 r8
  dsimp only [RS.q] at q0 q1 q2 q3 q4 q5 q6 q7 q8
  have zz := HB.size
  have y0 : w.heap.size + 1 + 1 < W0.heap.size := by omega
  have y1 : w.heap.size + 1 + 1 + 1 < W0.heap.size := by omega
  have y2 : w.heap.size + 1 + 1 + 1 + 1 < W0.heap.size := by omega
  have y3 : w.heap.size + 1 + 1 + 1 + 1 + 1 < W0.heap.size := by omega
  have y4 : w.heap.size ≤ W0.heap.size := by omega
  clear hK0
  refine Plan.wp_region_tree (.rd 0 (.rd 1 (.rd 3 (.two 2 (.wr 4 (.wr 5 (.rd 6 (.rd 7 (.rd 8 (.rd 10 (.two 9 (.wr 11 (.wr 12 (.rd 13 (.rd 14 .done)))) 11 (.wr 9 (.wr 12 (.rd 13 (.rd 14 .done))))))))))) 4 (.wr 2 (.wr 5 (.rd 6 (.rd 7 (.rd 8 (.rd 10 (.two 9 (.wr 11 (.wr 12 (.rd 13 (.rd 14 .done)))) 11 (.wr 9 (.wr 12 (.rd 13 (.rd 14 .done))))))))))))))) (by kernel_rfl) (by kernel_rfl) ?_
  (repeat (first | (refine Plan.tree_read (v := ?_) rfl rfl ?_ ?_; rotate_left; (focus ((intro wS hSw; have hkS := (bcell hSw).1; go_simp); try with_reducible rfl)); simp only [Act.put, List.setIfInBounds_toArray, List.set_cons_zero, List.set_cons_succ]) | (refine Plan.tree_skip rfl rfl ?_; simp only [Act.put, List.setIfInBounds_toArray, List.set_cons_zero, List.set_cons_succ])))
  refine Plan.tree_two rfl rfl (fun K hK => ?_) (fun K hK => ?_)
  · (try go_simp)
    go_at_call 16
    (with_reducible refine (KR1.out _ (HB.trans ((Below.refl _ _ : Below W0.heap.size W0 W0).drew.mono HB.size))).mono ?_)
    rintro e2 w2 ⟨C2, c2, rfl, hC2, hb2⟩
    have k2 : Below W0.heap.size W0 w2 := (Below.refl _ _ : Below W0.heap.size W0 W0).drew.trans (hb2.mono (Below.refl _ _ : Below W0.heap.size W0 W0).drew.size)
    (refine hK.out _ _ (k2) ?_; clear hK K; try simp only [Act.put, List.setIfInBounds_toArray, List.set_cons_zero, List.set_cons_succ])
    (repeat (first | (refine Plan.tree_read (v := ?_) rfl rfl ?_ ?_; rotate_left; (focus ((intro wS hSw; have hkS := (bcell hSw).1; go_simp); try with_reducible rfl)); simp only [Act.put, List.setIfInBounds_toArray, List.set_cons_zero, List.set_cons_succ]) | (refine Plan.tree_skip rfl rfl ?_; simp only [Act.put, List.setIfInBounds_toArray, List.set_cons_zero, List.set_cons_succ])))
    (refine Plan.tree_write rfl (fun K hK => ?_); try go_simp)
    have k2b : Below W0.heap.size W0 (w2.alloc (.cells #[.int .i64 5, .int .i64 0, .int .i64 1900, .int .i64 0, .int .i64 100, .int .i64 401, .int .i64 930, .int .i64 0, .int .i64 (-1)] 33)) := k2.alloc k2.size _
    have n2 : RightsAt (w2.alloc (.cells #[.int .i64 5, .int .i64 0, .int .i64 1900, .int .i64 0, .int .i64 100, .int .i64 401, .int .i64 930, .int .i64 0, .int .i64 (-1)] 33)) (w2.alloc (.cells #[.int .i64 5, .int .i64 0, .int .i64 1900, .int .i64 0, .int .i64 100, .int .i64 401, .int .i64 930, .int .i64 0, .int .i64 (-1)] 33)).heap.size (some ⟨w2.heap.size, 0, none⟩) [RS.r] := rowk_new rt_len w2 [RS.r] 33
    have m2 := (RightsAt.below hC2 (below_new w2 (.cells #[.int .i64 5, .int .i64 0, .int .i64 1900, .int .i64 0, .int .i64 100, .int .i64 401, .int .i64 930, .int .i64 0, .int .i64 (-1)] 33))).more (below_new w2 (.cells #[.int .i64 5, .int .i64 0, .int .i64 1900, .int .i64 0, .int .i64 100, .int .i64 401, .int .i64 930, .int .i64 0, .int .i64 (-1)] 33)).size
    (refine hK.out _ _ (k2b) ?_; clear hK K; try simp only [Act.put, List.setIfInBounds_toArray, List.set_cons_zero, List.set_cons_succ])
    (repeat (first | (refine Plan.tree_read (v := ?_) rfl rfl ?_ ?_; rotate_left; (focus ((intro wS hSw; have hkS := (bcell hSw).1; go_simp); try with_reducible rfl)); simp only [Act.put, List.setIfInBounds_toArray, List.set_cons_zero, List.set_cons_succ]) | (refine Plan.tree_skip rfl rfl ?_; simp only [Act.put, List.setIfInBounds_toArray, List.set_cons_zero, List.set_cons_succ])))
    (refine Plan.tree_write rfl (fun K hK => ?_); try go_simp)
    go_at_call 18
    (with_reducible refine (KS1.out _ _ _ _ _ m2 n2).mono ?_)
    rintro e3 w3 ⟨rfl, hb3⟩
    have k3 : Below W0.heap.size W0 w3 := k2b.trans (hb3.mono k2b.size)
    (refine hK.out _ _ (k3) ?_; clear hK K; try simp only [Act.put, List.setIfInBounds_toArray, List.set_cons_zero, List.set_cons_succ])
    (repeat (first | (refine Plan.tree_read (v := ?_) rfl rfl ?_ ?_; rotate_left; (focus ((intro wS hSw; have hkS := (bcell hSw).1; go_simp); try with_reducible rfl)); simp only [Act.put, List.setIfInBounds_toArray, List.set_cons_zero, List.set_cons_succ]) | (refine Plan.tree_skip rfl rfl ?_; simp only [Act.put, List.setIfInBounds_toArray, List.set_cons_zero, List.set_cons_succ])))
    refine Plan.tree_two rfl rfl (fun K hK => ?_) (fun K hK => ?_)
    · (try go_simp)
      go_at_call 16
      (with_reducible refine (KR2.out _ (HB.trans (k3.mono HB.size))).mono ?_)
      rintro e4 w4 ⟨C4, c4, rfl, hC4, hb4⟩
      have k4 : Below W0.heap.size W0 w4 := k3.trans (hb4.mono k3.size)
      (refine hK.out _ _ (k4) ?_; clear hK K; try simp only [Act.put, List.setIfInBounds_toArray, List.set_cons_zero, List.set_cons_succ])
      (repeat (first | (refine Plan.tree_read (v := ?_) rfl rfl ?_ ?_; rotate_left; (focus ((intro wS hSw; have hkS := (bcell hSw).1; go_simp); try with_reducible rfl)); simp only [Act.put, List.setIfInBounds_toArray, List.set_cons_zero, List.set_cons_succ]) | (refine Plan.tree_skip rfl rfl ?_; simp only [Act.put, List.setIfInBounds_toArray, List.set_cons_zero, List.set_cons_succ])))
      (refine Plan.tree_write rfl (fun K hK => ?_); try go_simp)
      have k4b : Below W0.heap.size W0 (w4.alloc (.cells #[.int .i64 5, .int .i64 1, .int .i64 1900, .int .i64 0, .int .i64 100, .int .i64 401, .int .i64 930, .int .i64 0, .int .i64 (-1)] 33)) := k4.alloc k4.size _
      have n4 : RightsAt (w4.alloc (.cells #[.int .i64 5, .int .i64 1, .int .i64 1900, .int .i64 0, .int .i64 100, .int .i64 401, .int .i64 930, .int .i64 0, .int .i64 (-1)] 33)) (w4.alloc (.cells #[.int .i64 5, .int .i64 1, .int .i64 1900, .int .i64 0, .int .i64 100, .int .i64 401, .int .i64 930, .int .i64 0, .int .i64 (-1)] 33)).heap.size (some ⟨w4.heap.size, 0, none⟩) [RS.q] := rowk_new rt_len w4 [RS.q] 33
      have m4 := (RightsAt.below hC4 (below_new w4 (.cells #[.int .i64 5, .int .i64 1, .int .i64 1900, .int .i64 0, .int .i64 100, .int .i64 401, .int .i64 930, .int .i64 0, .int .i64 (-1)] 33))).more (below_new w4 (.cells #[.int .i64 5, .int .i64 1, .int .i64 1900, .int .i64 0, .int .i64 100, .int .i64 401, .int .i64 930, .int .i64 0, .int .i64 (-1)] 33)).size
      (refine hK.out _ _ (k4b) ?_; clear hK K; try simp only [Act.put, List.setIfInBounds_toArray, List.set_cons_zero, List.set_cons_succ])
      (repeat (first | (refine Plan.tree_read (v := ?_) rfl rfl ?_ ?_; rotate_left; (focus ((intro wS hSw; have hkS := (bcell hSw).1; go_simp); try with_reducible rfl)); simp only [Act.put, List.setIfInBounds_toArray, List.set_cons_zero, List.set_cons_succ]) | (refine Plan.tree_skip rfl rfl ?_; simp only [Act.put, List.setIfInBounds_toArray, List.set_cons_zero, List.set_cons_succ])))
      (refine Plan.tree_write rfl (fun K hK => ?_); try go_simp)
      go_at_call 18
      (with_reducible refine (KS2.out _ _ _ _ _ m4 n4).mono ?_)
      rintro e5 w5 ⟨rfl, hb5⟩
      have k5 : Below W0.heap.size W0 w5 := k4b.trans (hb5.mono k4b.size)
      (refine hK.out _ _ (k5) ?_; clear hK K; try simp only [Act.put, List.setIfInBounds_toArray, List.set_cons_zero, List.set_cons_succ])
      (repeat (first | (refine Plan.tree_read (v := ?_) rfl rfl ?_ ?_; rotate_left; (focus ((intro wS hSw; have hkS := (bcell hSw).1; go_simp); try with_reducible rfl)); simp only [Act.put, List.setIfInBounds_toArray, List.set_cons_zero, List.set_cons_succ]) | (refine Plan.tree_skip rfl rfl ?_; simp only [Act.put, List.setIfInBounds_toArray, List.set_cons_zero, List.set_cons_succ])))
      refine Plan.tree_done ?_
      exact REST6 _ _ _ _ _ _ _ _ _ _ _ _ _ _ w5 k5
    · (try go_simp)
      have k4b : Below W0.heap.size W0 (w3.alloc (.cells #[.int .i64 5, .int .i64 1, .int .i64 1900, .int .i64 0, .int .i64 100, .int .i64 401, .int .i64 930, .int .i64 0, .int .i64 (-1)] 33)) := k3.alloc k3.size _
      have n4 : RightsAt (w3.alloc (.cells #[.int .i64 5, .int .i64 1, .int .i64 1900, .int .i64 0, .int .i64 100, .int .i64 401, .int .i64 930, .int .i64 0, .int .i64 (-1)] 33)) (w3.alloc (.cells #[.int .i64 5, .int .i64 1, .int .i64 1900, .int .i64 0, .int .i64 100, .int .i64 401, .int .i64 930, .int .i64 0, .int .i64 (-1)] 33)).heap.size (some ⟨w3.heap.size, 0, none⟩) [RS.q] := rowk_new rt_len w3 [RS.q] 33
      (refine hK.out _ _ (k4b) ?_; clear hK K; try simp only [Act.put, List.setIfInBounds_toArray, List.set_cons_zero, List.set_cons_succ])
      (repeat (first | (refine Plan.tree_read (v := ?_) rfl rfl ?_ ?_; rotate_left; (focus ((intro wS hSw; have hkS := (bcell hSw).1; go_simp); try with_reducible rfl)); simp only [Act.put, List.setIfInBounds_toArray, List.set_cons_zero, List.set_cons_succ]) | (refine Plan.tree_skip rfl rfl ?_; simp only [Act.put, List.setIfInBounds_toArray, List.set_cons_zero, List.set_cons_succ])))
      (refine Plan.tree_write rfl (fun K hK => ?_); try go_simp)
      go_at_call 16
      (with_reducible refine (KR2.out _ (HB.trans (k4b.mono HB.size))).mono ?_)
      rintro e4 w4 ⟨C4, c4, rfl, hC4, hb4⟩
      have k4 : Below W0.heap.size W0 w4 := k4b.trans (hb4.mono k4b.size)
      (refine hK.out _ _ (k4) ?_; clear hK K; try simp only [Act.put, List.setIfInBounds_toArray, List.set_cons_zero, List.set_cons_succ])
      (repeat (first | (refine Plan.tree_read (v := ?_) rfl rfl ?_ ?_; rotate_left; (focus ((intro wS hSw; have hkS := (bcell hSw).1; go_simp); try with_reducible rfl)); simp only [Act.put, List.setIfInBounds_toArray, List.set_cons_zero, List.set_cons_succ]) | (refine Plan.tree_skip rfl rfl ?_; simp only [Act.put, List.setIfInBounds_toArray, List.set_cons_zero, List.set_cons_succ])))
      (refine Plan.tree_write rfl (fun K hK => ?_); try go_simp)
      have m4 := (RightsAt.below n4 hb4).more hb4.size
      go_at_call 18
      (with_reducible refine (KS2.out _ _ _ _ _ hC4 m4).mono ?_)
      rintro e5 w5 ⟨rfl, hb5⟩
      have k5 : Below W0.heap.size W0 w5 := k4.trans (hb5.mono k4.size)
      (refine hK.out _ _ (k5) ?_; clear hK K; try simp only [Act.put, List.setIfInBounds_toArray, List.set_cons_zero, List.set_cons_succ])
      (repeat (first | (refine Plan.tree_read (v := ?_) rfl rfl ?_ ?_; rotate_left; (focus ((intro wS hSw; have hkS := (bcell hSw).1; go_simp); try with_reducible rfl)); simp only [Act.put, List.setIfInBounds_toArray, List.set_cons_zero, List.set_cons_succ]) | (refine Plan.tree_skip rfl rfl ?_; simp only [Act.put, List.setIfInBounds_toArray, List.set_cons_zero, List.set_cons_succ])))
      refine Plan.tree_done ?_
      exact REST6 _ _ _ _ _ _ _ _ _ _ _ _ _ _ w5 k5
  · (try go_simp)
    have k2b : Below W0.heap.size W0 ((W0.alloc (.cells #[.int .i64 5, .int .i64 0, .int .i64 1900, .int .i64 0, .int .i64 100, .int .i64 401, .int .i64 930, .int .i64 0, .int .i64 (-1)] 33))).drew := ((Below.refl _ _).alloc (Nat.le_refl _) _).drew
    have n2 : RightsAt (W0.alloc (.cells #[.int .i64 5, .int .i64 0, .int .i64 1900, .int .i64 0, .int .i64 100, .int .i64 401, .int .i64 930, .int .i64 0, .int .i64 (-1)] 33)).drew (W0.alloc (.cells #[.int .i64 5, .int .i64 0, .int .i64 1900, .int .i64 0, .int .i64 100, .int .i64 401, .int .i64 930, .int .i64 0, .int .i64 (-1)] 33)).heap.size (some ⟨W0.heap.size, 0, none⟩) [RS.r] := rowk_new rt_len W0 [RS.r] 33
    (refine hK.out _ _ (k2b) ?_; clear hK K; try simp only [Act.put, List.setIfInBounds_toArray, List.set_cons_zero, List.set_cons_succ])
    (repeat (first | (refine Plan.tree_read (v := ?_) rfl rfl ?_ ?_; rotate_left; (focus ((intro wS hSw; have hkS := (bcell hSw).1; go_simp); try with_reducible rfl)); simp only [Act.put, List.setIfInBounds_toArray, List.set_cons_zero, List.set_cons_succ]) | (refine Plan.tree_skip rfl rfl ?_; simp only [Act.put, List.setIfInBounds_toArray, List.set_cons_zero, List.set_cons_succ])))
    (refine Plan.tree_write rfl (fun K hK => ?_); try go_simp)
    go_at_call 16
    (with_reducible refine (KR1.out _ (HB.trans (k2b.mono HB.size))).mono ?_)
    rintro e2 w2 ⟨C2, c2, rfl, hC2, hb2⟩
    have k2 : Below W0.heap.size W0 w2 := k2b.trans (hb2.mono k2b.size)
    (refine hK.out _ _ (k2) ?_; clear hK K; try simp only [Act.put, List.setIfInBounds_toArray, List.set_cons_zero, List.set_cons_succ])
    (repeat (first | (refine Plan.tree_read (v := ?_) rfl rfl ?_ ?_; rotate_left; (focus ((intro wS hSw; have hkS := (bcell hSw).1; go_simp); try with_reducible rfl)); simp only [Act.put, List.setIfInBounds_toArray, List.set_cons_zero, List.set_cons_succ]) | (refine Plan.tree_skip rfl rfl ?_; simp only [Act.put, List.setIfInBounds_toArray, List.set_cons_zero, List.set_cons_succ])))
    (refine Plan.tree_write rfl (fun K hK => ?_); try go_simp)
    have m2 := (RightsAt.below n2 hb2).more hb2.size
    go_at_call 18
    (with_reducible refine (KS1.out _ _ _ _ _ hC2 m2).mono ?_)
    rintro e3 w3 ⟨rfl, hb3⟩
    have k3 : Below W0.heap.size W0 w3 := k2.trans (hb3.mono k2.size)
    (refine hK.out _ _ (k3) ?_; clear hK K; try simp only [Act.put, List.setIfInBounds_toArray, List.set_cons_zero, List.set_cons_succ])
    (repeat (first | (refine Plan.tree_read (v := ?_) rfl rfl ?_ ?_; rotate_left; (focus ((intro wS hSw; have hkS := (bcell hSw).1; go_simp); try with_reducible rfl)); simp only [Act.put, List.setIfInBounds_toArray, List.set_cons_zero, List.set_cons_succ]) | (refine Plan.tree_skip rfl rfl ?_; simp only [Act.put, List.setIfInBounds_toArray, List.set_cons_zero, List.set_cons_succ])))
    refine Plan.tree_two rfl rfl (fun K hK => ?_) (fun K hK => ?_)
    · (try go_simp)
      go_at_call 16
      (with_reducible refine (KR2.out _ (HB.trans (k3.mono HB.size))).mono ?_)
      rintro e4 w4 ⟨C4, c4, rfl, hC4, hb4⟩
      have k4 : Below W0.heap.size W0 w4 := k3.trans (hb4.mono k3.size)
      (refine hK.out _ _ (k4) ?_; clear hK K; try simp only [Act.put, List.setIfInBounds_toArray, List.set_cons_zero, List.set_cons_succ])
      (repeat (first | (refine Plan.tree_read (v := ?_) rfl rfl ?_ ?_; rotate_left; (focus ((intro wS hSw; have hkS := (bcell hSw).1; go_simp); try with_reducible rfl)); simp only [Act.put, List.setIfInBounds_toArray, List.set_cons_zero, List.set_cons_succ]) | (refine Plan.tree_skip rfl rfl ?_; simp only [Act.put, List.setIfInBounds_toArray, List.set_cons_zero, List.set_cons_succ])))
      (refine Plan.tree_write rfl (fun K hK => ?_); try go_simp)
      have k4b : Below W0.heap.size W0 (w4.alloc (.cells #[.int .i64 5, .int .i64 1, .int .i64 1900, .int .i64 0, .int .i64 100, .int .i64 401, .int .i64 930, .int .i64 0, .int .i64 (-1)] 33)) := k4.alloc k4.size _
      have n4 : RightsAt (w4.alloc (.cells #[.int .i64 5, .int .i64 1, .int .i64 1900, .int .i64 0, .int .i64 100, .int .i64 401, .int .i64 930, .int .i64 0, .int .i64 (-1)] 33)) (w4.alloc (.cells #[.int .i64 5, .int .i64 1, .int .i64 1900, .int .i64 0, .int .i64 100, .int .i64 401, .int .i64 930, .int .i64 0, .int .i64 (-1)] 33)).heap.size (some ⟨w4.heap.size, 0, none⟩) [RS.q] := rowk_new rt_len w4 [RS.q] 33
      have m4 := (RightsAt.below hC4 (below_new w4 (.cells #[.int .i64 5, .int .i64 1, .int .i64 1900, .int .i64 0, .int .i64 100, .int .i64 401, .int .i64 930, .int .i64 0, .int .i64 (-1)] 33))).more (below_new w4 (.cells #[.int .i64 5, .int .i64 1, .int .i64 1900, .int .i64 0, .int .i64 100, .int .i64 401, .int .i64 930, .int .i64 0, .int .i64 (-1)] 33)).size
      (refine hK.out _ _ (k4b) ?_; clear hK K; try simp only [Act.put, List.setIfInBounds_toArray, List.set_cons_zero, List.set_cons_succ])
      (repeat (first | (refine Plan.tree_read (v := ?_) rfl rfl ?_ ?_; rotate_left; (focus ((intro wS hSw; have hkS := (bcell hSw).1; go_simp); try with_reducible rfl)); simp only [Act.put, List.setIfInBounds_toArray, List.set_cons_zero, List.set_cons_succ]) | (refine Plan.tree_skip rfl rfl ?_; simp only [Act.put, List.setIfInBounds_toArray, List.set_cons_zero, List.set_cons_succ])))
      (refine Plan.tree_write rfl (fun K hK => ?_); try go_simp)
      go_at_call 18
      (with_reducible refine (KS2.out _ _ _ _ _ m4 n4).mono ?_)
      rintro e5 w5 ⟨rfl, hb5⟩
      have k5 : Below W0.heap.size W0 w5 := k4b.trans (hb5.mono k4b.size)
      (refine hK.out _ _ (k5) ?_; clear hK K; try simp only [Act.put, List.setIfInBounds_toArray, List.set_cons_zero, List.set_cons_succ])
      (repeat (first | (refine Plan.tree_read (v := ?_) rfl rfl ?_ ?_; rotate_left; (focus ((intro wS hSw; have hkS := (bcell hSw).1; go_simp); try with_reducible rfl)); simp only [Act.put, List.setIfInBounds_toArray, List.set_cons_zero, List.set_cons_succ]) | (refine Plan.tree_skip rfl rfl ?_; simp only [Act.put, List.setIfInBounds_toArray, List.set_cons_zero, List.set_cons_succ])))
      refine Plan.tree_done ?_
      exact REST6 _ _ _ _ _ _ _ _ _ _ _ _ _ _ w5 k5
    · (try go_simp)
      have k4b : Below W0.heap.size W0 (w3.alloc (.cells #[.int .i64 5, .int .i64 1, .int .i64 1900, .int .i64 0, .int .i64 100, .int .i64 401, .int .i64 930, .int .i64 0, .int .i64 (-1)] 33)) := k3.alloc k3.size _
      have n4 : RightsAt (w3.alloc (.cells #[.int .i64 5, .int .i64 1, .int .i64 1900, .int .i64 0, .int .i64 100, .int .i64 401, .int .i64 930, .int .i64 0, .int .i64 (-1)] 33)) (w3.alloc (.cells #[.int .i64 5, .int .i64 1, .int .i64 1900, .int .i64 0, .int .i64 100, .int .i64 401, .int .i64 930, .int .i64 0, .int .i64 (-1)] 33)).heap.size (some ⟨w3.heap.size, 0, none⟩) [RS.q] := rowk_new rt_len w3 [RS.q] 33
      (refine hK.out _ _ (k4b) ?_; clear hK K; try simp only [Act.put, List.setIfInBounds_toArray, List.set_cons_zero, List.set_cons_succ])
      (repeat (first | (refine Plan.tree_read (v := ?_) rfl rfl ?_ ?_; rotate_left; (focus ((intro wS hSw; have hkS := (bcell hSw).1; go_simp); try with_reducible rfl)); simp only [Act.put, List.setIfInBounds_toArray, List.set_cons_zero, List.set_cons_succ]) | (refine Plan.tree_skip rfl rfl ?_; simp only [Act.put, List.setIfInBounds_toArray, List.set_cons_zero, List.set_cons_succ])))
      (refine Plan.tree_write rfl (fun K hK => ?_); try go_simp)
      go_at_call 16
      (with_reducible refine (KR2.out _ (HB.trans (k4b.mono HB.size))).mono ?_)
      rintro e4 w4 ⟨C4, c4, rfl, hC4, hb4⟩
      have k4 : Below W0.heap.size W0 w4 := k4b.trans (hb4.mono k4b.size)
      (refine hK.out _ _ (k4) ?_; clear hK K; try simp only [Act.put, List.setIfInBounds_toArray, List.set_cons_zero, List.set_cons_succ])
      (repeat (first | (refine Plan.tree_read (v := ?_) rfl rfl ?_ ?_; rotate_left; (focus ((intro wS hSw; have hkS := (bcell hSw).1; go_simp); try with_reducible rfl)); simp only [Act.put, List.setIfInBounds_toArray, List.set_cons_zero, List.set_cons_succ]) | (refine Plan.tree_skip rfl rfl ?_; simp only [Act.put, List.setIfInBounds_toArray, List.set_cons_zero, List.set_cons_succ])))
      (refine Plan.tree_write rfl (fun K hK => ?_); try go_simp)
      have m4 := (RightsAt.below n4 hb4).more hb4.size
      go_at_call 18
      (with_reducible refine (KS2.out _ _ _ _ _ hC4 m4).mono ?_)
      rintro e5 w5 ⟨rfl, hb5⟩
      have k5 : Below W0.heap.size W0 w5 := k4.trans (hb5.mono k4.size)
      (refine hK.out _ _ (k5) ?_; clear hK K; try simp only [Act.put, List.setIfInBounds_toArray, List.set_cons_zero, List.set_cons_succ])
      (repeat (first | (refine Plan.tree_read (v := ?_) rfl rfl ?_ ?_; rotate_left; (focus ((intro wS hSw; have hkS := (bcell hSw).1; go_simp); try with_reducible rfl)); simp only [Act.put, List.setIfInBounds_toArray, List.set_cons_zero, List.set_cons_succ]) | (refine Plan.tree_skip rfl rfl ?_; simp only [Act.put, List.setIfInBounds_toArray, List.set_cons_zero, List.set_cons_succ])))
      refine Plan.tree_done ?_
      exact REST6 _ _ _ _ _ _ _ _ _ _ _ _ _ _ w5 k5
end Go.Proofs.YtchmplnkddgncaaDoor
