/- The walk of change. (Printed by gen_rw5.py.) -/
import Derived.Test.YtchmplnkddgncaaDoorRW4
set_option linter.unusedSimpArgs false
set_option linter.unusedVariables false
namespace Go.Proofs.YtchmplnkddgncaaDoor
open Go.RowKit CM RG
attribute [local go_sem] alloc_drewN setCell_drewN shape_drewN

def lastK (k : Int) (L : List Dl) : Option Dl := (L.filter (fun d => decide (d.kind = k))).foldl pick none
theorem lastK_snoc (k : Int) (L : List Dl) (d : Dl) : lastK k (L ++ [d]) = if d.kind = k then pick (lastK k L) d else lastK k L := by
  unfold lastK
  rw [List.filter_append, List.foldl_append]
  by_cases h : d.kind = k
  · rw [if_pos h]; simp [List.filter, h]
  · rw [if_neg h]; simp [List.filter, h]
def endT (L : List Dl) : Bool := L.any (fun d => decide (d.kind = 3))
/-- What change says: ended, or sold and moved. -/
def changeL (r : Rt) (L : List Dl) : Option Rt := if endT L then none
  else some { r with owner := match lastK 1 L with | none => r.owner | some d => d.right.owner, place := match lastK 2 L with | none => r.place | some d => d.right.place }
theorem arr_setCells {w : World} {g n : Nat} {F : Nat → Value} (h : Arr w g n F) (vs : List Value) (hv : vs.length = n) : Arr (w.setCells g 0 vs) g n (fun j => vs.getD j undef) := fun j hj => by
  refine ⟨?_, (World.frozen?_setCells g vs 0 w _).trans (h j hj).2⟩
  have := World.cell?_setCells_in g vs 0 w (fun j hj => by rw [Nat.zero_add, (h j (by omega)).1]; rfl) j (by omega)
  rw [Nat.zero_add] at this
  rw [this]
  simp [List.getD_eq_getElem?_getD, hv, hj]
theorem far_setCells {w : World} {g n b : Nat} {F : Nat → Value} (h : Arr w g n F) (hg : g ≠ b) (vs : List Value) : Arr (w.setCells b 0 vs) g n F := fun j hj =>
  ⟨(World.cell?_setCells_out b vs 0 w ⟨g, j, none⟩ (fun e => absurd e hg)).trans (h j hj).1, (World.frozen?_setCells b vs 0 w _).trans (h j hj).2⟩
theorem below_setCells {B b : Nat} {w0 w : World} (h : Below B w0 w) (hb : B ≤ b) : ∀ (vs : List Value) (o : Nat), Below B w0 (w.setCells b o vs)
  | [], o => h
  | v :: vs, o => below_setCells (h.setCell (p := ⟨b, o, none⟩) hb v) hb vs (o + 1)
theorem size_setCells' (b : Nat) : ∀ (vs : List Value) (o : Nat) (w : World), (w.setCells b o vs).heap.size = w.heap.size
  | [], _, _ => rfl
  | v :: vs, o, w => (size_setCells' b vs (o + 1) _).trans (by simp)
/-- A variable that holds a deal: of what was picked, two cells are looked at. -/
def HeldD (w : World) (b o : Nat) (x : Option Dl) (f : Dl → Int) (s : Bool) : Prop :=
  s = x.isSome ∧ ∃ (F : Nat → Value) (n v : Int), Arr w b 13 F ∧ F 1 = .int .i64 n ∧ F o = .int .i64 v ∧ ∀ d, x = some d → n = d.known ∧ v = f d
theorem HeldD.put {w : World} {b o : Nat} {x : Option Dl} {f : Dl → Int} {s : Bool} (h : HeldD w b o x f s) (d : Dl) (ho : d.cells.getD o undef = .int .i64 (f d)) : HeldD (w.setCells b 0 d.cells) b o (some d) f true := by
  obtain ⟨_, F, n, v, hA, _⟩ := h
  exact ⟨rfl, _, d.known, f d, arr_setCells hA _ (dl_len d), rfl, ho, fun e he => by cases he; exact ⟨rfl, rfl⟩⟩
theorem HeldD.far {w : World} {b o c : Nat} {x : Option Dl} {f : Dl → Int} {s : Bool} (h : HeldD w b o x f s) (hb : b ≠ c) (vs : List Value) : HeldD (w.setCells c 0 vs) b o x f s := by
  obtain ⟨h0, F, n, v, hA, hr⟩ := h
  exact ⟨h0, F, n, v, far_setCells hA hb vs, hr⟩
theorem HeldD.alloc {w : World} {b o : Nat} {x : Option Dl} {f : Dl → Int} {s : Bool} (h : HeldD w b o x f s) (hb : b < w.heap.size) (ob : Obj) : HeldD (w.alloc ob) b o x f s := by
  obtain ⟨h0, F, n, v, hA, hr⟩ := h
  exact ⟨h0, F, n, v, hA.alloc hb ob, hr⟩
theorem arr_new (w : World) (A : Array Value) (t : TypeId) {b n : Nat} (hb : b = w.heap.size) (hn : A.size = n) : Arr (w.alloc (.cells A t)) b n (fun j => A.getD j undef) := fun j hj => by
  subst hb
  refine ⟨?_, by unfold World.frozen?; rw [show (⟨w.heap.size, j, none⟩ : Addr).block = w.heap.size from rfl, heap_alloc_new]; simp⟩
  rw [World.cell?_alloc_new]
  simp [hn, hj]
theorem endT_snoc (L : List Dl) (d : Dl) : endT (L ++ [d]) = (endT L || decide (d.kind = 3)) := by simp [endT]
theorem endT_take {L : List Dl} {k : Nat} {d : Dl} (h : L[k]? = some d) (hd : d.kind = 3) : endT L = true := List.any_eq_true.2 ⟨d, List.mem_of_getElem? h, by simpa using hd⟩
theorem take_snoc_d {L : List Dl} {k : Nat} {d : Dl} (h : L[k]? = some d) : L.take (k + 1) = L.take k ++ [d] := by rw [List.take_add_one, h]; rfl
set_option maxRecDepth 100000 in
set_option maxHeartbeats 8000000 in
theorem change_any (r : Rt) (L : List Dl) (C : Option Addr) (cc : Nat) (w : World) {B : Nat} (hC : DealsAt w B C L) (hB : B ≤ w.heap.size) (hl : L.length ≤ 1000000) :
    Calls Tryd.prog 35 #[.agg #[.int .i64 r.id, .int .i64 r.owner, .int .i64 r.date, .int .i64 r.place, .int .i64 r.rate, .int .i64 r.from1, .int .i64 r.until1, .int .i64 r.back, .int .i64 r.backTo], .slice C L.length cc] w (fun e w' => Below w.heap.size w w' ∧ ((changeL r L = none ∧ e = .returned (.tuple #[.agg #[.int .i64 0, .int .i64 0, .int .i64 0, .int .i64 0, .int .i64 0, .int .i64 0, .int .i64 0, .int .i64 0, .int .i64 0], .bool false])) ∨
      ∃ q, changeL r L = some q ∧ e = .returned (.tuple #[.agg #[.int .i64 q.id, .int .i64 q.owner, .int .i64 q.date, .int .i64 q.place, .int .i64 q.rate, .int .i64 q.from1, .int .i64 q.until1, .int .i64 q.back, .int .i64 q.backTo], .bool true]))) := by
  go_enter Tryd.func35, Tryd.ntmps35
  go_wp2_with fail
  go_loopw [8, 9, 14] (fun s8 s9 i wr => ∃ (k : Nat) (b1 b2 : Bool), k ≤ L.length ∧ i = .int .i64 k ∧ s8 = .bool b1 ∧ s9 = .bool b2 ∧ Hid (endT (L.take k) = false) ∧ HeldD wr (w.heap.size + 1 + 1) 3 (lastK 1 (L.take k)) (fun d => d.right.owner) b1 ∧ HeldD wr (w.heap.size + 1 + 1 + 1) 5 (lastK 2 (L.take k)) (fun d => d.right.place) b2 ∧
    Arr wr w.heap.size 9 (fun j => r.cells.getD j undef) ∧ (∃ F, Arr wr (w.heap.size + 1) 9 F) ∧ Below w.heap.size w wr ∧ w.heap.size + 4 ≤ wr.heap.size) (fun _ _ i _ => L.length - (intOf i).toNat)
  case atStart =>
    refine ⟨0, false, false, Nat.zero_le _, rfl, rfl, rfl, rfl, ⟨rfl, _, 0, 0, ((arr_new ((w.alloc (.cells #[.int .i64 r.id, .int .i64 r.owner, .int .i64 r.date, .int .i64 r.place, .int .i64 r.rate, .int .i64 r.from1, .int .i64 r.until1, .int .i64 r.back, .int .i64 r.backTo] 33)).alloc (.cells #[.int .i64 0, .int .i64 0, .int .i64 0, .int .i64 0, .int .i64 0, .int .i64 0, .int .i64 0, .int .i64 0, .int .i64 0] 33)) #[.int .i64 0, .int .i64 0, .int .i64 0, .int .i64 0, .int .i64 0, .int .i64 0, .int .i64 0, .int .i64 0, .int .i64 0, .int .i64 0, .int .i64 0, .int .i64 0, .int .i64 0] 44 (b := w.heap.size + 1 + 1) (by simp) rfl).alloc (by simp <;> omega) _), rfl, rfl, fun d h => by cases h⟩, ⟨rfl, _, 0, 0, (arr_new (((w.alloc (.cells #[.int .i64 r.id, .int .i64 r.owner, .int .i64 r.date, .int .i64 r.place, .int .i64 r.rate, .int .i64 r.from1, .int .i64 r.until1, .int .i64 r.back, .int .i64 r.backTo] 33)).alloc (.cells #[.int .i64 0, .int .i64 0, .int .i64 0, .int .i64 0, .int .i64 0, .int .i64 0, .int .i64 0, .int .i64 0, .int .i64 0] 33)).alloc (.cells #[.int .i64 0, .int .i64 0, .int .i64 0, .int .i64 0, .int .i64 0, .int .i64 0, .int .i64 0, .int .i64 0, .int .i64 0, .int .i64 0, .int .i64 0, .int .i64 0, .int .i64 0] 44)) #[.int .i64 0, .int .i64 0, .int .i64 0, .int .i64 0, .int .i64 0, .int .i64 0, .int .i64 0, .int .i64 0, .int .i64 0, .int .i64 0, .int .i64 0, .int .i64 0, .int .i64 0] 44 (b := w.heap.size + 1 + 1 + 1) (by simp) rfl), rfl, rfl, fun d h => by cases h⟩, (Arr.congr ((((arr_new w #[.int .i64 r.id, .int .i64 r.owner, .int .i64 r.date, .int .i64 r.place, .int .i64 r.rate, .int .i64 r.from1, .int .i64 r.until1, .int .i64 r.back, .int .i64 r.backTo] 33 rfl rfl).alloc (by simp <;> omega) _).alloc (by simp <;> omega) _).alloc (by simp <;> omega) _) (fun j hj => by match j, hj with | 0, _ => rfl | 1, _ => rfl | 2, _ => rfl | 3, _ => rfl | 4, _ => rfl | 5, _ => rfl | 6, _ => rfl | 7, _ => rfl | 8, _ => rfl)), ⟨_, (((arr_new (w.alloc (.cells #[.int .i64 r.id, .int .i64 r.owner, .int .i64 r.date, .int .i64 r.place, .int .i64 r.rate, .int .i64 r.from1, .int .i64 r.until1, .int .i64 r.back, .int .i64 r.backTo] 33)) #[.int .i64 0, .int .i64 0, .int .i64 0, .int .i64 0, .int .i64 0, .int .i64 0, .int .i64 0, .int .i64 0, .int .i64 0] 33 (b := w.heap.size + 1) (by simp) rfl).alloc (by simp <;> omega) _).alloc (by simp <;> omega) _)⟩, ?_, by simp⟩
    exact ((((Below.refl _ _).alloc (Nat.le_refl _) _).alloc (by simp <;> omega) _).alloc (by simp; omega) _).alloc (by simp; omega) _
  case round =>
    obtain ⟨k, b1, b2, hk, rfl, rfl, rfl, hE, hS, hM, hR, ⟨FT, hT⟩, hBw, hz⟩ := hrel
    have z0 : w.heap.size < wr.heap.size := by omega
    have z1 : w.heap.size + 1 < wr.heap.size := by omega
    have z2 : w.heap.size + 1 + 1 < wr.heap.size := by omega
    have z3 : w.heap.size + 1 + 1 + 1 < wr.heap.size := by omega
    by_cases hlt : k < L.length
    · obtain ⟨d, hx⟩ : ∃ e, L[k]? = some e := ⟨_, List.getElem?_eq_getElem hlt⟩
      obtain ⟨b, off, rfl, hb, c0, c1, c2, c3, c4, c5, c6, c7, c8, c9, c10, c11, c12⟩ := (hC.below (hBw.mono hB)).at_ hx
      have hbw : b < wr.heap.size := by omega
      have HT := Lib.hid (take_snoc_d hx)
      have HX := Lib.hid hx
      clear hx
      have hBa : Below w.heap.size w (wr.alloc (.cells d.cells.toArray 44)) := hBw.alloc (by omega) _
      have hSa := hS.alloc (by omega) (.cells d.cells.toArray 44)
      have hMa := hM.alloc (by omega) (.cells d.cells.toArray 44)
      have hRa := hR.alloc (by omega) (.cells d.cells.toArray 44)
      have hTa := hT.alloc (by omega) (.cells d.cells.toArray 44)
      have hSp := fun b => (size_setCells' b d.cells 0 wr)
      by_cases k3 : d.kind = 3
      · have b3 : (d.kind == 3) = true := by simpa using k3
        have HN : Hid (changeL r L = none) := by show _ = _; unfold changeL; rw [if_pos (endT_take HX.out k3)]
        obtain ⟨y0, yf0⟩ := hT 0 (by decide)
        obtain ⟨y1, yf1⟩ := hT 1 (by decide)
        obtain ⟨y2, yf2⟩ := hT 2 (by decide)
        obtain ⟨y3, yf3⟩ := hT 3 (by decide)
        obtain ⟨y4, yf4⟩ := hT 4 (by decide)
        obtain ⟨y5, yf5⟩ := hT 5 (by decide)
        obtain ⟨y6, yf6⟩ := hT 6 (by decide)
        obtain ⟨y7, yf7⟩ := hT 7 (by decide)
        obtain ⟨y8, yf8⟩ := hT 8 (by decide)
        go_wp2_with fail
        refine bodyPost_ret (v := .tuple #[.agg #[.int .i64 0, .int .i64 0, .int .i64 0, .int .i64 0, .int .i64 0, .int .i64 0, .int .i64 0, .int .i64 0, .int .i64 0], .bool false]) (by simp [results, Tryd.results35, go_sem, z1, y0, y1, y2, y3, y4, y5, y6, y7, y8]) rfl ?_
        exact ⟨(below_setCells hBw (by omega) [_, _, _, _, _, _, _, _, _] 0).alloc (by simp; omega) _, Or.inl ⟨HN.out, rfl⟩⟩
      have b3 : (d.kind == 3) = false := by simpa using k3
      have HE : Hid (endT (L.take (k + 1)) = false) := by show _ = _; rw [HT.out, endT_snoc, hE.out, decide_eq_false k3]; rfl
      by_cases k1 : d.kind = 1
      · have b1' : (d.kind == 1) = true := by simpa using k1
        have b2' : (d.kind == 2) = false := by rw [k1]; rfl
        have HM : Hid (lastK 2 (L.take (k + 1)) = lastK 2 (L.take k)) := by show _ = _; rw [HT.out, lastK_snoc, if_neg (by omega)]
        have HS : Hid (lastK 1 (L.take (k + 1)) = pick (lastK 1 (L.take k)) d) := by show _ = _; rw [HT.out, lastK_snoc, if_pos k1]
        have hS1 := hS
        obtain ⟨h0, F, n, v, hA, g1, g2, hd⟩ := hS
        obtain ⟨q0, qf0⟩ := hA 0 (by decide)
        obtain ⟨q1, qf1⟩ := hA 1 (by decide)
        obtain ⟨q2, qf2⟩ := hA 2 (by decide)
        obtain ⟨q3, qf3⟩ := hA 3 (by decide)
        obtain ⟨q4, qf4⟩ := hA 4 (by decide)
        obtain ⟨q5, qf5⟩ := hA 5 (by decide)
        obtain ⟨q6, qf6⟩ := hA 6 (by decide)
        obtain ⟨q7, qf7⟩ := hA 7 (by decide)
        obtain ⟨q8, qf8⟩ := hA 8 (by decide)
        obtain ⟨q9, qf9⟩ := hA 9 (by decide)
        obtain ⟨q10, qf10⟩ := hA 10 (by decide)
        obtain ⟨q11, qf11⟩ := hA 11 (by decide)
        obtain ⟨q12, qf12⟩ := hA 12 (by decide)
        rw [g1] at q1
        rw [g2] at q3
        clear k1 k3
        cases b1 with
        | false =>
          have HS2 : Hid (lastK 1 (L.take (k + 1)) = some d) := by
            show _ = _
            rw [HS.out]
            cases e : lastK 1 (L.take k) with
            | none => rfl
            | some x => rw [e] at h0; cases h0
          clear HS hd h0 g1 g2
          go_wp2_with fail
          go_roundw
          case rel => exact ⟨k + 1, true, b2, by omega, by go_num, rfl, rfl, HE.out, (by rw [HS2.out]; exact (hS1.put d rfl).alloc (by rw [hSp]; omega) (.cells d.cells.toArray 44)), (by rw [HM.out]; exact (hM.far (by omega) d.cells).alloc (by rw [hSp]; omega) (.cells d.cells.toArray 44)), (far_setCells hR (by omega) d.cells).alloc (by rw [hSp]; omega) (.cells d.cells.toArray 44), ⟨FT, (far_setCells hT (by omega) d.cells).alloc (by rw [hSp]; omega) (.cells d.cells.toArray 44)⟩, (below_setCells hBw (by omega) d.cells 0).alloc (by rw [hSp]; omega) _, by simp; omega⟩
          case measure => simp [intOf]; omega
        | true =>
          obtain ⟨x, hxx⟩ : ∃ x, lastK 1 (L.take k) = some x := by
            cases e : lastK 1 (L.take k) with
            | none => rw [e] at h0; cases h0
            | some x => exact ⟨x, rfl⟩
          obtain ⟨rfl, rfl⟩ := hd x hxx
          by_cases hle : x.known ≤ d.known
          · have HS2 : Hid (lastK 1 (L.take (k + 1)) = some d) := by show _ = _; rw [HS.out, hxx]; show (if _ then _ else _) = _; rw [if_pos hle]
            have dle : decide (x.known ≤ d.known) = true := decide_eq_true hle
            clear HS hd h0 hxx
            go_wp2_with fail
            go_roundw
            case rel => exact ⟨k + 1, true, b2, by omega, by go_num, rfl, rfl, HE.out, (by rw [HS2.out]; exact (hS1.put d rfl).alloc (by rw [hSp]; omega) (.cells d.cells.toArray 44)), (by rw [HM.out]; exact (hM.far (by omega) d.cells).alloc (by rw [hSp]; omega) (.cells d.cells.toArray 44)), (far_setCells hR (by omega) d.cells).alloc (by rw [hSp]; omega) (.cells d.cells.toArray 44), ⟨FT, (far_setCells hT (by omega) d.cells).alloc (by rw [hSp]; omega) (.cells d.cells.toArray 44)⟩, (below_setCells hBw (by omega) d.cells 0).alloc (by rw [hSp]; omega) _, by simp; omega⟩
            case measure => simp [intOf]; omega
          · have HS2 : Hid (lastK 1 (L.take (k + 1)) = lastK 1 (L.take k)) := by show _ = _; rw [HS.out, hxx]; show (if _ then _ else _) = _; rw [if_neg hle]
            have dle : decide (x.known ≤ d.known) = false := decide_eq_false hle
            clear HS hd h0 hxx
            go_wp2_with fail
            go_roundw
            case rel => exact ⟨k + 1, true, b2, by omega, by go_num, rfl, rfl, HE.out, (by rw [HS2.out]; exact hSa), (by rw [HM.out]; exact hMa), hRa, ⟨FT, hTa⟩, hBa, by simp; omega⟩
            case measure => simp [intOf]; omega
      have b1' : (d.kind == 1) = false := by simpa using k1
      have HS : Hid (lastK 1 (L.take (k + 1)) = lastK 1 (L.take k)) := by show _ = _; rw [HT.out, lastK_snoc, if_neg k1]
      by_cases k2 : d.kind = 2
      · have b2' : (d.kind == 2) = true := by simpa using k2
        have HM : Hid (lastK 2 (L.take (k + 1)) = pick (lastK 2 (L.take k)) d) := by show _ = _; rw [HT.out, lastK_snoc, if_pos k2]
        have hM1 := hM
        obtain ⟨h0, F, n, v, hA, g1, g2, hd⟩ := hM
        obtain ⟨q0, qf0⟩ := hA 0 (by decide)
        obtain ⟨q1, qf1⟩ := hA 1 (by decide)
        obtain ⟨q2, qf2⟩ := hA 2 (by decide)
        obtain ⟨q3, qf3⟩ := hA 3 (by decide)
        obtain ⟨q4, qf4⟩ := hA 4 (by decide)
        obtain ⟨q5, qf5⟩ := hA 5 (by decide)
        obtain ⟨q6, qf6⟩ := hA 6 (by decide)
        obtain ⟨q7, qf7⟩ := hA 7 (by decide)
        obtain ⟨q8, qf8⟩ := hA 8 (by decide)
        obtain ⟨q9, qf9⟩ := hA 9 (by decide)
        obtain ⟨q10, qf10⟩ := hA 10 (by decide)
        obtain ⟨q11, qf11⟩ := hA 11 (by decide)
        obtain ⟨q12, qf12⟩ := hA 12 (by decide)
        rw [g1] at q1
        rw [g2] at q5
        clear k1 k3 k2
        cases b2 with
        | false =>
          have HM2 : Hid (lastK 2 (L.take (k + 1)) = some d) := by
            show _ = _
            rw [HM.out]
            cases e : lastK 2 (L.take k) with
            | none => rfl
            | some x => rw [e] at h0; cases h0
          clear HM hd h0 g1 g2
          go_wp2_with fail
          go_roundw
          case rel => exact ⟨k + 1, b1, true, by omega, by go_num, rfl, rfl, HE.out, (by rw [HS.out]; exact (hS.far (by omega) d.cells).alloc (by rw [hSp]; omega) (.cells d.cells.toArray 44)), (by rw [HM2.out]; exact (hM1.put d rfl).alloc (by rw [hSp]; omega) (.cells d.cells.toArray 44)), (far_setCells hR (by omega) d.cells).alloc (by rw [hSp]; omega) (.cells d.cells.toArray 44), ⟨FT, (far_setCells hT (by omega) d.cells).alloc (by rw [hSp]; omega) (.cells d.cells.toArray 44)⟩, (below_setCells hBw (by omega) d.cells 0).alloc (by rw [hSp]; omega) _, by simp; omega⟩
          case measure => simp [intOf]; omega
        | true =>
          obtain ⟨x, hxx⟩ : ∃ x, lastK 2 (L.take k) = some x := by
            cases e : lastK 2 (L.take k) with
            | none => rw [e] at h0; cases h0
            | some x => exact ⟨x, rfl⟩
          obtain ⟨rfl, rfl⟩ := hd x hxx
          by_cases hle : x.known ≤ d.known
          · have HM2 : Hid (lastK 2 (L.take (k + 1)) = some d) := by show _ = _; rw [HM.out, hxx]; show (if _ then _ else _) = _; rw [if_pos hle]
            have dle : decide (x.known ≤ d.known) = true := decide_eq_true hle
            clear HM hd h0 hxx
            go_wp2_with fail
            go_roundw
            case rel => exact ⟨k + 1, b1, true, by omega, by go_num, rfl, rfl, HE.out, (by rw [HS.out]; exact (hS.far (by omega) d.cells).alloc (by rw [hSp]; omega) (.cells d.cells.toArray 44)), (by rw [HM2.out]; exact (hM1.put d rfl).alloc (by rw [hSp]; omega) (.cells d.cells.toArray 44)), (far_setCells hR (by omega) d.cells).alloc (by rw [hSp]; omega) (.cells d.cells.toArray 44), ⟨FT, (far_setCells hT (by omega) d.cells).alloc (by rw [hSp]; omega) (.cells d.cells.toArray 44)⟩, (below_setCells hBw (by omega) d.cells 0).alloc (by rw [hSp]; omega) _, by simp; omega⟩
            case measure => simp [intOf]; omega
          · have HM2 : Hid (lastK 2 (L.take (k + 1)) = lastK 2 (L.take k)) := by show _ = _; rw [HM.out, hxx]; show (if _ then _ else _) = _; rw [if_neg hle]
            have dle : decide (x.known ≤ d.known) = false := decide_eq_false hle
            clear HM hd h0 hxx
            go_wp2_with fail
            go_roundw
            case rel => exact ⟨k + 1, b1, true, by omega, by go_num, rfl, rfl, HE.out, (by rw [HS.out]; exact hSa), (by rw [HM2.out]; exact hMa), hRa, ⟨FT, hTa⟩, hBa, by simp; omega⟩
            case measure => simp [intOf]; omega
      have b2' : (d.kind == 2) = false := by simpa using k2
      have HM : Hid (lastK 2 (L.take (k + 1)) = lastK 2 (L.take k)) := by show _ = _; rw [HT.out, lastK_snoc, if_neg k2]
      clear k1 k2 k3 hS hM
      go_wp2_with fail
      go_roundw
      case rel => exact ⟨k + 1, b1, b2, by omega, by go_num, rfl, rfl, HE.out, (by rw [HS.out]; exact hSa), (by rw [HM.out]; exact hMa), hRa, ⟨FT, hTa⟩, hBa, by simp; omega⟩
      case measure => simp [intOf]; omega
    · have hke : k = L.length := by omega
      subst hke
      rw [List.take_length] at hE hS hM
      obtain ⟨h0, F, n, v, hA, g1, g2, hd⟩ := hS
      obtain ⟨h0', F', n', v', hA', g1', g2', hd'⟩ := hM
      have s1 := (hA 3 (by decide)).1
      have s2 := (hA' 5 (by decide)).1
      rw [g2] at s1
      rw [g2'] at s2
      have x0 : wr.cell? ⟨w.heap.size, 0, none⟩ = some (.int .i64 r.id) := (hR 0 (by decide)).1
      have xf0 := (hR 0 (by decide)).2
      have x1 : wr.cell? ⟨w.heap.size, 1, none⟩ = some (.int .i64 r.owner) := (hR 1 (by decide)).1
      have xf1 := (hR 1 (by decide)).2
      have x2 : wr.cell? ⟨w.heap.size, 2, none⟩ = some (.int .i64 r.date) := (hR 2 (by decide)).1
      have xf2 := (hR 2 (by decide)).2
      have x3 : wr.cell? ⟨w.heap.size, 3, none⟩ = some (.int .i64 r.place) := (hR 3 (by decide)).1
      have xf3 := (hR 3 (by decide)).2
      have x4 : wr.cell? ⟨w.heap.size, 4, none⟩ = some (.int .i64 r.rate) := (hR 4 (by decide)).1
      have xf4 := (hR 4 (by decide)).2
      have x5 : wr.cell? ⟨w.heap.size, 5, none⟩ = some (.int .i64 r.from1) := (hR 5 (by decide)).1
      have xf5 := (hR 5 (by decide)).2
      have x6 : wr.cell? ⟨w.heap.size, 6, none⟩ = some (.int .i64 r.until1) := (hR 6 (by decide)).1
      have xf6 := (hR 6 (by decide)).2
      have x7 : wr.cell? ⟨w.heap.size, 7, none⟩ = some (.int .i64 r.back) := (hR 7 (by decide)).1
      have xf7 := (hR 7 (by decide)).2
      have x8 : wr.cell? ⟨w.heap.size, 8, none⟩ = some (.int .i64 r.backTo) := (hR 8 (by decide)).1
      have xf8 := (hR 8 (by decide)).2
      obtain ⟨y0, yf0⟩ := hT 0 (by decide)
      obtain ⟨y1, yf1⟩ := hT 1 (by decide)
      obtain ⟨y2, yf2⟩ := hT 2 (by decide)
      obtain ⟨y3, yf3⟩ := hT 3 (by decide)
      obtain ⟨y4, yf4⟩ := hT 4 (by decide)
      obtain ⟨y5, yf5⟩ := hT 5 (by decide)
      obtain ⟨y6, yf6⟩ := hT 6 (by decide)
      obtain ⟨y7, yf7⟩ := hT 7 (by decide)
      obtain ⟨y8, yf8⟩ := hT 8 (by decide)
      cases b1 <;> cases b2
      · have hz1 : lastK 1 L = none := by
          cases e : lastK 1 L with
          | none => rfl
          | some x => rw [e] at h0; cases h0
        have hz2 : lastK 2 L = none := by
          cases e : lastK 2 L with
          | none => rfl
          | some x => rw [e] at h0'; cases h0'
        have HQ : Hid (changeL r L = some r) := by
          show _ = _
          unfold changeL
          rw [if_neg (by rw [hE.out]; exact Bool.false_ne_true), hz1, hz2]
        clear hd hd' h0 h0' hz1 hz2 g1 g2 g1' g2' hA hA' hE
        go_wp2_with fail
        refine bodyPost_ret (v := .tuple #[.agg #[.int .i64 r.id, .int .i64 r.owner, .int .i64 r.date, .int .i64 r.place, .int .i64 r.rate, .int .i64 r.from1, .int .i64 r.until1, .int .i64 r.back, .int .i64 r.backTo], .bool true]) (by simp [results, Tryd.results35, go_sem, z1, y0, y1, y2, y3, y4, y5, y6, y7, y8]) rfl ?_
        exact ⟨below_setCells hBw (by omega) [_, _, _, _, _, _, _, _, _] 0, Or.inr ⟨_, HQ.out, rfl⟩⟩
      · have hz1 : lastK 1 L = none := by
          cases e : lastK 1 L with
          | none => rfl
          | some x => rw [e] at h0; cases h0
        obtain ⟨pz2, hz2⟩ : ∃ x, lastK 2 L = some x := by
          cases e : lastK 2 L with
          | none => rw [e] at h0'; cases h0'
          | some x => exact ⟨x, rfl⟩
        have hv2 := (hd' pz2 hz2).2
        have HQ : Hid (changeL r L = some { r with place := v' }) := by
          show _ = _
          unfold changeL
          rw [if_neg (by rw [hE.out]; exact Bool.false_ne_true), hz1, hz2, hv2]
        clear hd hd' h0 h0' hz1 hz2 g1 g2 g1' g2' hA hA' hv2 hE
        go_wp2_with fail
        refine bodyPost_ret (v := .tuple #[.agg #[.int .i64 r.id, .int .i64 r.owner, .int .i64 r.date, .int .i64 v', .int .i64 r.rate, .int .i64 r.from1, .int .i64 r.until1, .int .i64 r.back, .int .i64 r.backTo], .bool true]) (by simp [results, Tryd.results35, go_sem, z1, y0, y1, y2, y3, y4, y5, y6, y7, y8]) rfl ?_
        exact ⟨below_setCells (hBw.setCell (p := ⟨w.heap.size, 3, none⟩) (Nat.le_refl _) (.int .i64 v')) (by omega) [_, _, _, _, _, _, _, _, _] 0, Or.inr ⟨_, HQ.out, rfl⟩⟩
      · obtain ⟨pz1, hz1⟩ : ∃ x, lastK 1 L = some x := by
          cases e : lastK 1 L with
          | none => rw [e] at h0; cases h0
          | some x => exact ⟨x, rfl⟩
        have hv1 := (hd pz1 hz1).2
        have hz2 : lastK 2 L = none := by
          cases e : lastK 2 L with
          | none => rfl
          | some x => rw [e] at h0'; cases h0'
        have HQ : Hid (changeL r L = some { r with owner := v }) := by
          show _ = _
          unfold changeL
          rw [if_neg (by rw [hE.out]; exact Bool.false_ne_true), hz1, hz2, hv1]
        clear hd hd' h0 h0' hz1 hz2 g1 g2 g1' g2' hA hA' hv1 hE
        go_wp2_with fail
        refine bodyPost_ret (v := .tuple #[.agg #[.int .i64 r.id, .int .i64 v, .int .i64 r.date, .int .i64 r.place, .int .i64 r.rate, .int .i64 r.from1, .int .i64 r.until1, .int .i64 r.back, .int .i64 r.backTo], .bool true]) (by simp [results, Tryd.results35, go_sem, z1, y0, y1, y2, y3, y4, y5, y6, y7, y8]) rfl ?_
        exact ⟨below_setCells (hBw.setCell (p := ⟨w.heap.size, 1, none⟩) (Nat.le_refl _) (.int .i64 v)) (by omega) [_, _, _, _, _, _, _, _, _] 0, Or.inr ⟨_, HQ.out, rfl⟩⟩
      · obtain ⟨pz1, hz1⟩ : ∃ x, lastK 1 L = some x := by
          cases e : lastK 1 L with
          | none => rw [e] at h0; cases h0
          | some x => exact ⟨x, rfl⟩
        have hv1 := (hd pz1 hz1).2
        obtain ⟨pz2, hz2⟩ : ∃ x, lastK 2 L = some x := by
          cases e : lastK 2 L with
          | none => rw [e] at h0'; cases h0'
          | some x => exact ⟨x, rfl⟩
        have hv2 := (hd' pz2 hz2).2
        have HQ : Hid (changeL r L = some { r with owner := v, place := v' }) := by
          show _ = _
          unfold changeL
          rw [if_neg (by rw [hE.out]; exact Bool.false_ne_true), hz1, hz2, hv1, hv2]
        clear hd hd' h0 h0' hz1 hz2 g1 g2 g1' g2' hA hA' hv1 hv2 hE
        go_wp2_with fail
        refine bodyPost_ret (v := .tuple #[.agg #[.int .i64 r.id, .int .i64 v, .int .i64 r.date, .int .i64 v', .int .i64 r.rate, .int .i64 r.from1, .int .i64 r.until1, .int .i64 r.back, .int .i64 r.backTo], .bool true]) (by simp [results, Tryd.results35, go_sem, z1, y0, y1, y2, y3, y4, y5, y6, y7, y8]) rfl ?_
        exact ⟨below_setCells ((hBw.setCell (p := ⟨w.heap.size, 1, none⟩) (Nat.le_refl _) (.int .i64 v)).setCell (p := ⟨w.heap.size, 3, none⟩) (Nat.le_refl _) (.int .i64 v')) (by omega) [_, _, _, _, _, _, _, _, _] 0, Or.inr ⟨_, HQ.out, rfl⟩⟩
end Go.Proofs.YtchmplnkddgncaaDoor
