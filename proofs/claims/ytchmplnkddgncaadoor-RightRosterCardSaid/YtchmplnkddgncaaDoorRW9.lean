/- The walk of the reference's counts. (Printed by gen_rw9.py.) -/
import Derived.Test.YtchmplnkddgncaaDoorRW7
set_option linter.unusedSimpArgs false
set_option linter.unusedVariables false
namespace Go.Proofs.YtchmplnkddgncaaDoor
open Go.RowKit CM RG
attribute [local go_sem] alloc_drewN setCell_drewN shape_drewN

def BoxD (w : World) (b : Nat) (d : Dl) : Prop := w.heap[b]? = some (.cells #[.int .i64 d.kind, .int .i64 d.known, .int .i64 d.right.id, .int .i64 d.right.owner, .int .i64 d.right.date, .int .i64 d.right.place, .int .i64 d.right.rate, .int .i64 d.right.from1, .int .i64 d.right.until1, .int .i64 d.right.back, .int .i64 d.right.backTo, .int .i64 d.from1, .int .i64 d.until1] 44 (0, 0))
theorem BoxD.cells {w : World} {b : Nat} {d : Dl} (h : BoxD w b d) : w.cell? ⟨b, 0, none⟩ = some (.int .i64 d.kind) ∧ w.cell? ⟨b, 1, none⟩ = some (.int .i64 d.known) ∧ w.cell? ⟨b, 2, none⟩ = some (.int .i64 d.right.id) ∧ w.cell? ⟨b, 3, none⟩ = some (.int .i64 d.right.owner) ∧ w.cell? ⟨b, 4, none⟩ = some (.int .i64 d.right.date) ∧ w.cell? ⟨b, 5, none⟩ = some (.int .i64 d.right.place) ∧ w.cell? ⟨b, 6, none⟩ = some (.int .i64 d.right.rate) ∧ w.cell? ⟨b, 7, none⟩ = some (.int .i64 d.right.from1) ∧ w.cell? ⟨b, 8, none⟩ = some (.int .i64 d.right.until1) ∧ w.cell? ⟨b, 9, none⟩ = some (.int .i64 d.right.back) ∧ w.cell? ⟨b, 10, none⟩ = some (.int .i64 d.right.backTo) ∧ w.cell? ⟨b, 11, none⟩ = some (.int .i64 d.from1) ∧ w.cell? ⟨b, 12, none⟩ = some (.int .i64 d.until1) := by
  have h : w.heap[b]? = _ := h
  refine ⟨?_, ?_, ?_, ?_, ?_, ?_, ?_, ?_, ?_, ?_, ?_, ?_, ?_⟩ <;> simp [World.cell?, h]
theorem BoxD.below {w w1 : World} {b : Nat} {d : Dl} (h : BoxD w b d) {B : Nat} (hb : Below B w w1) (hB : b < B) : BoxD w1 b d := (hb.block b hB).trans h
/-- An earlier grant of the same Id that counts. -/
def earlyB (no np : Nat) (known : Int) (d x : Dl) : Bool := decide (x.kind = 0) && decide (x.known ≤ known) && decide (x.right.id = d.right.id) && rightB no np x.right
def countsB (no np : Nat) (day known : Int) (L : List Dl) (i : Nat) (d : Dl) : Bool :=
  decide (d.known ≤ known) && (if d.kind = 0 then !(L.take i).any (earlyB no np known d) && rightB no np d.right else appB no np day d)
theorem ids_snoc (K : List Dl) (d : Dl) (i : Int) : i ∈ idsOf (K ++ [d]) ↔ i ∈ idsOf K ∨ (d.kind = 0 ∧ d.right.id = i) := by
  unfold idsOf
  rw [grantsOf_snoc]
  by_cases h : d.kind = 0 ∧ d.right.id ∉ (grantsOf K).map (·.id)
  · rw [if_pos h, List.map_append, List.mem_append]
    simp [h.1, eq_comm]
  · rw [if_neg h]
    refine ⟨Or.inl, fun q => q.elim id fun q => ?_⟩
    rw [← q.2]
    exact Classical.byContradiction fun e => h ⟨q.1, e⟩
theorem ids_iff : ∀ (K : List Dl) (i : Int), i ∈ idsOf K ↔ ∃ d ∈ K, d.kind = 0 ∧ d.right.id = i := by
  have key : ∀ (n : Nat) (K : List Dl), K.length = n → ∀ i, i ∈ idsOf K ↔ ∃ d ∈ K, d.kind = 0 ∧ d.right.id = i := by
    intro n
    induction n with
    | zero =>
      intro K hK i
      obtain rfl := List.eq_nil_of_length_eq_zero hK
      simp [idsOf, grantsOf]
    | succ n ih =>
      intro K hK i
      have hne : K ≠ [] := fun e => by rw [e] at hK; cases hK
      obtain ⟨K', d, rfl⟩ : ∃ K' d, K = K' ++ [d] := ⟨K.dropLast, K.getLast hne, (List.dropLast_concat_getLast hne).symm⟩
      rw [ids_snoc, ih K' (by simp at hK; exact hK)]
      constructor
      · rintro (⟨x, hx, q⟩ | q)
        · exact ⟨x, List.mem_append_left _ hx, q⟩
        · exact ⟨d, by simp, q⟩
      · rintro ⟨x, hx, q⟩
        rcases List.mem_append.1 hx with c | c
        · exact .inl ⟨x, c, q⟩
        · simp at c; subst c; exact .inr q
  exact fun K i => key _ K rfl i
theorem counts_other {no np : Nat} {day known : Int} {L : List Dl} {i : Nat} {d : Dl} (h : d.kind ≠ 0) : countsB no np day known L i d = (decide (d.known ≤ known) && appB no np day d) := by
  unfold countsB; rw [if_neg h]
theorem counts_grant {no np : Nat} {day known : Int} {L : List Dl} {i : Nat} {d : Dl} (h : d.kind = 0) : countsB no np day known L i d = true ↔ (d.known ≤ known ∧ appB no np day d = true) ∧ d.right.id ∉ idsOf (counted no np day known (L.take i)) := by
  have ha : appB no np day d = rightB no np d.right := by unfold appB; rw [if_pos h]
  have he : (L.take i).any (earlyB no np known d) = true ↔ d.right.id ∈ idsOf (counted no np day known (L.take i)) := by
    rw [ids_iff, List.any_eq_true]
    constructor
    · rintro ⟨x, hx, q⟩
      unfold earlyB at q
      simp only [Bool.and_eq_true, decide_eq_true_eq] at q
      exact ⟨x, counted_mem.2 ⟨hx, q.1.1.2, by unfold appB; rw [if_pos q.1.1.1]; exact q.2⟩, q.1.1.1, q.1.2⟩
    · rintro ⟨x, hx, q1, q2⟩
      obtain ⟨h1, h2, h3⟩ := counted_mem.1 hx
      refine ⟨x, h1, ?_⟩
      unfold earlyB
      simp only [Bool.and_eq_true, decide_eq_true_eq]
      exact ⟨⟨⟨q1, h2⟩, q2⟩, app0 h3 q1⟩
  unfold countsB
  rw [if_pos h, ha]
  simp only [Bool.and_eq_true, decide_eq_true_eq, Bool.not_eq_true', ← Bool.not_eq_true, he]
  constructor
  · rintro ⟨a, b, c⟩; exact ⟨⟨a, c⟩, b⟩
  · rintro ⟨⟨a, c⟩, b⟩; exact ⟨a, b, c⟩
set_option maxRecDepth 100000 in
set_option maxHeartbeats 8000000 in
theorem counts_any (X : Bas) (pl : Pl) (L : List Dl) (C : Option Addr) (cc : Nat) (i : Nat) (d : Dl) (day known : Int) (w : World) {B : Nat} (hC : DealsAt w B C L) (hB : B ≤ w.heap.size) (hl : L.length ≤ 100) (hd : L[i]? = some d) (hl1 : X.l1 ≤ 9223372036854775807) (hl2 : pl.length ≤ 9223372036854775807) :
    Calls Tryd.prog 36 #[.agg #[.string X.nm, .slice X.a1 X.l1 X.c1, .int .i64 X.cl, .slice X.P pl.length X.cP, .slice X.a4 X.l4 X.c4, .slice X.a5 X.l5 X.c5, .slice X.a6 X.l6 X.c6, .slice X.a7 X.l7 X.c7, .slice X.a8 X.l8 X.c8, .slice X.a9 X.l9 X.c9, .int .i64 X.er], .slice C L.length cc, .int .i64 i, .int .i64 day, .int .i64 known] w (BoolIs (countsB X.l1 pl.length day known L i d) w) := by
  have hil := (List.getElem?_eq_some_iff.1 hd).1
  obtain ⟨b, off, rfl, hb, c0, c1, c2, c3, c4, c5, c6, c7, c8, c9, c10, c11, c12⟩ := hC.at_ hd
  have hB0 : Below w.heap.size w ((w.alloc (.cells #[.string X.nm, .slice X.a1 X.l1 X.c1, .int .i64 X.cl, .slice X.P pl.length X.cP, .slice X.a4 X.l4 X.c4, .slice X.a5 X.l5 X.c5, .slice X.a6 X.l6 X.c6, .slice X.a7 X.l7 X.c7, .slice X.a8 X.l8 X.c8, .slice X.a9 X.l9 X.c9, .int .i64 X.er] 31)).alloc (.cells #[.int .i64 d.kind, .int .i64 d.known, .int .i64 d.right.id, .int .i64 d.right.owner, .int .i64 d.right.date, .int .i64 d.right.place, .int .i64 d.right.rate, .int .i64 d.right.from1, .int .i64 d.right.until1, .int .i64 d.right.back, .int .i64 d.right.backTo, .int .i64 d.from1, .int .i64 d.until1] 44)) := ((Below.refl _ _).alloc (Nat.le_refl _) _).alloc (by simp) _
  have hbx : BoxR ((w.alloc (.cells #[.string X.nm, .slice X.a1 X.l1 X.c1, .int .i64 X.cl, .slice X.P pl.length X.cP, .slice X.a4 X.l4 X.c4, .slice X.a5 X.l5 X.c5, .slice X.a6 X.l6 X.c6, .slice X.a7 X.l7 X.c7, .slice X.a8 X.l8 X.c8, .slice X.a9 X.l9 X.c9, .int .i64 X.er] 31)).alloc (.cells #[.int .i64 d.kind, .int .i64 d.known, .int .i64 d.right.id, .int .i64 d.right.owner, .int .i64 d.right.date, .int .i64 d.right.place, .int .i64 d.right.rate, .int .i64 d.right.from1, .int .i64 d.right.until1, .int .i64 d.right.back, .int .i64 d.right.backTo, .int .i64 d.from1, .int .i64 d.until1] 44)) w.heap.size X pl := (Below.heap_alloc _ _ _ (by simp)).trans (heap_alloc_new w _)
  have hbd : BoxD ((w.alloc (.cells #[.string X.nm, .slice X.a1 X.l1 X.c1, .int .i64 X.cl, .slice X.P pl.length X.cP, .slice X.a4 X.l4 X.c4, .slice X.a5 X.l5 X.c5, .slice X.a6 X.l6 X.c6, .slice X.a7 X.l7 X.c7, .slice X.a8 X.l8 X.c8, .slice X.a9 X.l9 X.c9, .int .i64 X.er] 31)).alloc (.cells #[.int .i64 d.kind, .int .i64 d.known, .int .i64 d.right.id, .int .i64 d.right.owner, .int .i64 d.right.date, .int .i64 d.right.place, .int .i64 d.right.rate, .int .i64 d.right.from1, .int .i64 d.right.until1, .int .i64 d.right.back, .int .i64 d.right.backTo, .int .i64 d.from1, .int .i64 d.until1] 44)) (w.heap.size + 1) d := by
    have h := heap_alloc_new (w.alloc (.cells #[.string X.nm, .slice X.a1 X.l1 X.c1, .int .i64 X.cl, .slice X.P pl.length X.cP, .slice X.a4 X.l4 X.c4, .slice X.a5 X.l5 X.c5, .slice X.a6 X.l6 X.c6, .slice X.a7 X.l7 X.c7, .slice X.a8 X.l8 X.c8, .slice X.a9 X.l9 X.c9, .int .i64 X.er] 31)) (.cells #[.int .i64 d.kind, .int .i64 d.known, .int .i64 d.right.id, .int .i64 d.right.owner, .int .i64 d.right.date, .int .i64 d.right.place, .int .i64 d.right.rate, .int .i64 d.right.from1, .int .i64 d.right.until1, .int .i64 d.right.back, .int .i64 d.right.backTo, .int .i64 d.from1, .int .i64 d.until1] 44)
    rw [World.size_alloc] at h
    exact h
  have hs0 : ((w.alloc (.cells #[.string X.nm, .slice X.a1 X.l1 X.c1, .int .i64 X.cl, .slice X.P pl.length X.cP, .slice X.a4 X.l4 X.c4, .slice X.a5 X.l5 X.c5, .slice X.a6 X.l6 X.c6, .slice X.a7 X.l7 X.c7, .slice X.a8 X.l8 X.c8, .slice X.a9 X.l9 X.c9, .int .i64 X.er] 31)).alloc (.cells #[.int .i64 d.kind, .int .i64 d.known, .int .i64 d.right.id, .int .i64 d.right.owner, .int .i64 d.right.date, .int .i64 d.right.place, .int .i64 d.right.rate, .int .i64 d.right.from1, .int .i64 d.right.until1, .int .i64 d.right.back, .int .i64 d.right.backTo, .int .i64 d.from1, .int .i64 d.until1] 44)).heap.size = w.heap.size + 1 + 1 := by simp
  have hbw : b < w.heap.size := by omega
  have hi0 : (0 : Int) ≤ (i : Int) ∧ (i : Int) < (L.length : Int) := by omega
  have hS1 := sub1 hl1
  have hS2 := sub1 hl2
  have KO := fun n a b w => rin3_any n a b w
  by_cases hkn : d.known ≤ known
  case neg =>
    have HR : Hid (countsB X.l1 pl.length day known L i d = false) := by show _ = _; unfold countsB; rw [decide_eq_false hkn]; rfl
    have d1 : decide (known < d.known) = true := decide_eq_true (by omega)
    clear hd
    go_enter Tryd.func36, Tryd.ntmps36
    go_wp2_with fail
    go_ret
    exact ⟨ret_bool HR.out.symm, hB0⟩
  have d1 : decide (known < d.known) = false := decide_eq_false (by omega)
  obtain ⟨e1, he1⟩ : ∃ c, decide (d.from1 ≤ day) = c := ⟨_, rfl⟩
  obtain ⟨e2, he2⟩ : ∃ c, decide (day ≤ d.until1) = c := ⟨_, rfl⟩
  by_cases k0 : d.kind = 0
  · have HR : Hid (countsB X.l1 pl.length day known L i d = (!(L.take i).any (earlyB X.l1 pl.length known d) && rightB X.l1 pl.length d.right)) := by show _ = _; unfold countsB; rw [decide_eq_true hkn, if_pos k0]; rfl
    have b0 : (d.kind == 0) = true := by simpa using k0
    have KR : Hid (∀ (x : Dl) wx, Calls Tryd.prog 10 #[.agg #[.string X.nm, .slice X.a1 X.l1 X.c1, .int .i64 X.cl, .slice X.P pl.length X.cP, .slice X.a4 X.l4 X.c4, .slice X.a5 X.l5 X.c5, .slice X.a6 X.l6 X.c6, .slice X.a7 X.l7 X.c7, .slice X.a8 X.l8 X.c8, .slice X.a9 X.l9 X.c9, .int .i64 X.er], .agg #[.int .i64 x.right.id, .int .i64 x.right.owner, .int .i64 x.right.date, .int .i64 x.right.place, .int .i64 x.right.rate, .int .i64 x.right.from1, .int .i64 x.right.until1, .int .i64 x.right.back, .int .i64 x.right.backTo]] wx (BoolIs (rightB X.l1 pl.length x.right) wx)) := fun x wx => rright_any X pl x.right wx hl1 hl2
    have HD := Lib.hid hd
    have HC := Lib.hid hC
    clear k0 hd
    generalize countsB X.l1 pl.length day known L i d = R at HR ⊢
    cases e1
    all_goals
      go_enter Tryd.func36, Tryd.ntmps36
      go_wp2_with fail
      go_loopw [13] (fun s13 wr => ∃ (k : Nat), k ≤ i ∧ s13 = .int .i64 k ∧ Hid ((L.take k).any (earlyB X.l1 pl.length known d) = false) ∧ Hid (BoxR wr w.heap.size X pl ∧ BoxD wr (w.heap.size + 1) d ∧ Below w.heap.size w wr ∧ w.heap.size + 2 ≤ wr.heap.size)) (fun s13 _ => i - (intOf s13).toNat)
      case atStart => exact ⟨0, Nat.zero_le _, rfl, rfl, hbx, hbd, hB0, by rw [hs0]; omega⟩
      case round =>
        clear hbx hbd hB0 hs0
        obtain ⟨k, hk, rfl, hE, hW⟩ := hrel
        obtain ⟨hbx, hbd, hBw, hz⟩ := hW.out
        obtain ⟨x0, x1, x2, x3, x4, x5, x6, x7, x8, x9, x10⟩ := hbx.cells
        obtain ⟨y0, y1, y2, y3, y4, y5, y6, y7, y8, y9, y10, y11, y12⟩ := hbd.cells
        have z0 : w.heap.size < wr.heap.size := by omega
        have z1 : w.heap.size + 1 < wr.heap.size := by omega
        by_cases hlt : k < i
        · obtain ⟨x, hx⟩ : ∃ e, L[k]? = some e := ⟨_, List.getElem?_eq_getElem (by omega)⟩
          obtain ⟨bq, oq, hbo, hbq, q0, q1, q2, q3, q4, q5, q6, q7, q8, q9, q10, q11, q12⟩ := (HC.out.below (hBw.mono hB)).at_ hx
          injection hbo with hbo
          injection hbo with hb1 hb2
          subst hb1 hb2
          have hbr : b < wr.heap.size := by omega
          have hki : (0 : Int) ≤ (k : Int) ∧ (k : Int) < (L.length : Int) := by omega
          have HT := Lib.hid (take_snoc_d hx)
          have HE : Hid ((L.take (k + 1)).any (earlyB X.l1 pl.length known d) = earlyB X.l1 pl.length known d x) := by show _ = _; rw [HT.out, List.any_append, hE.out]; simp
          clear hx c0 c1 c2 c3 c4 c5 c6 c7 c8 c9 c10 c11 c12
          by_cases xk : x.kind = 0
          case neg =>
            have HN : Hid ((L.take (k + 1)).any (earlyB X.l1 pl.length known d) = false) := by show _ = _; rw [HE.out]; unfold earlyB; rw [decide_eq_false xk]; rfl
            have dx : (x.kind == 0) = false := by simpa using xk
            go_wp2_with fail
            refine Plan.wp_region_tree (.rd 0 (.rd 1 (.rd 2 (.rd 3 (.rd 4 (.rd 5 (.rd 6 (.rd 7 (.rd 8 (.rd 9 (.rd 10 (.rd 11 (.rd 12 (.rd 13 (.rd 14 (.rd 15 (.rd 16 (.rd 17 (.rd 18 (.rd 19 (.rd 20 (.rd 21 (.rd 22 (.rd 23 (.rd 24 (.rd 25 (.rd 26 (.rd 27 (.rd 28 (.rd 29 (.rd 30 (.rd 31 (.rd 32 (.rd 33 (.wr 34 (.rd 35 .done)))))))))))))))))))))))))))))))))))) (by kernel_rfl) (by kernel_rfl) ?_
            (repeat (first | (refine Plan.tree_read (v := ?_) rfl rfl ?_ ?_; rotate_left; (focus ((intro wS hSw; have hkS := (bcell hSw).1; try (have hkT := fun (b o : Nat) (h : b < w.heap.size) => hkS b o (by first | omega | (simp; omega) | (simp; done))); go_simp); try with_reducible rfl)); simp only [Act.put, List.setIfInBounds_toArray, List.set_cons_zero, List.set_cons_succ]) | (refine Plan.tree_skip rfl rfl ?_; simp only [Act.put, List.setIfInBounds_toArray, List.set_cons_zero, List.set_cons_succ])))
            (refine Plan.tree_write rfl (fun K hK => ?_); try go_simp)
            (refine hK.out _ _ ((Below.refl _ _).drew) ?_; clear hK K; try simp only [Act.put, List.setIfInBounds_toArray, List.set_cons_zero, List.set_cons_succ])
            (repeat (first | (refine Plan.tree_read (v := ?_) rfl rfl ?_ ?_; rotate_left; (focus ((intro wS hSw; have hkS := (bcell hSw).1; try (have hkT := fun (b o : Nat) (h : b < w.heap.size) => hkS b o (by first | omega | (simp; omega) | (simp; done))); go_simp); try with_reducible rfl)); simp only [Act.put, List.setIfInBounds_toArray, List.set_cons_zero, List.set_cons_succ]) | (refine Plan.tree_skip rfl rfl ?_; simp only [Act.put, List.setIfInBounds_toArray, List.set_cons_zero, List.set_cons_succ])))
            refine Plan.tree_done ?_
            go_wp2_with fail
            go_roundw
            case rel => exact ⟨k + 1, by omega, by go_num, HN, hbx, hbd, hBw.drew, (show w.heap.size + 2 ≤ wr.heap.size by omega)⟩
            case measure => simp [intOf]; omega
          have dx : (x.kind == 0) = true := by simpa using xk
          by_cases xn : x.known ≤ known
          case neg =>
            have HN : Hid ((L.take (k + 1)).any (earlyB X.l1 pl.length known d) = false) := by show _ = _; rw [HE.out]; unfold earlyB; rw [decide_eq_false xn, Bool.and_false]; rfl
            have dn : decide (x.known ≤ known) = false := decide_eq_false xn
            clear xk
            go_wp2_with fail
            refine Plan.wp_region_tree (.rd 0 (.rd 1 (.rd 2 (.rd 3 (.rd 4 (.rd 5 (.rd 6 (.rd 7 (.rd 8 (.rd 9 (.rd 10 (.rd 11 (.rd 12 (.rd 13 (.rd 14 (.rd 15 (.rd 16 (.rd 17 (.rd 18 (.rd 19 (.rd 20 (.rd 21 (.rd 22 (.rd 23 (.rd 24 (.rd 25 (.rd 26 (.rd 27 (.rd 28 (.rd 29 (.rd 30 (.rd 31 (.rd 32 (.rd 33 (.wr 34 (.rd 35 .done)))))))))))))))))))))))))))))))))))) (by kernel_rfl) (by kernel_rfl) ?_
            (repeat (first | (refine Plan.tree_read (v := ?_) rfl rfl ?_ ?_; rotate_left; (focus ((intro wS hSw; have hkS := (bcell hSw).1; try (have hkT := fun (b o : Nat) (h : b < w.heap.size) => hkS b o (by first | omega | (simp; omega) | (simp; done))); go_simp); try with_reducible rfl)); simp only [Act.put, List.setIfInBounds_toArray, List.set_cons_zero, List.set_cons_succ]) | (refine Plan.tree_skip rfl rfl ?_; simp only [Act.put, List.setIfInBounds_toArray, List.set_cons_zero, List.set_cons_succ])))
            (refine Plan.tree_write rfl (fun K hK => ?_); try go_simp)
            (refine hK.out _ _ ((Below.refl _ _).drew) ?_; clear hK K; try simp only [Act.put, List.setIfInBounds_toArray, List.set_cons_zero, List.set_cons_succ])
            (repeat (first | (refine Plan.tree_read (v := ?_) rfl rfl ?_ ?_; rotate_left; (focus ((intro wS hSw; have hkS := (bcell hSw).1; try (have hkT := fun (b o : Nat) (h : b < w.heap.size) => hkS b o (by first | omega | (simp; omega) | (simp; done))); go_simp); try with_reducible rfl)); simp only [Act.put, List.setIfInBounds_toArray, List.set_cons_zero, List.set_cons_succ]) | (refine Plan.tree_skip rfl rfl ?_; simp only [Act.put, List.setIfInBounds_toArray, List.set_cons_zero, List.set_cons_succ])))
            refine Plan.tree_done ?_
            go_wp2_with fail
            go_roundw
            case rel => exact ⟨k + 1, by omega, by go_num, HN, hbx, hbd, hBw.drew, (show w.heap.size + 2 ≤ wr.heap.size by omega)⟩
            case measure => simp [intOf]; omega
          have dn : decide (x.known ≤ known) = true := decide_eq_true xn
          by_cases xi : x.right.id = d.right.id
          case neg =>
            have HN : Hid ((L.take (k + 1)).any (earlyB X.l1 pl.length known d) = false) := by show _ = _; rw [HE.out]; unfold earlyB; rw [decide_eq_false xi, Bool.and_false]; rfl
            have di : (x.right.id == d.right.id) = false := by simpa using xi
            clear xk
            go_wp2_with fail
            refine Plan.wp_region_tree (.rd 0 (.rd 1 (.rd 2 (.rd 3 (.rd 4 (.rd 5 (.rd 6 (.rd 7 (.rd 8 (.rd 9 (.rd 10 (.rd 11 (.rd 12 (.rd 13 (.rd 14 (.rd 15 (.rd 16 (.rd 17 (.rd 18 (.rd 19 (.rd 20 (.rd 21 (.rd 22 (.rd 23 (.rd 24 (.rd 25 (.rd 26 (.rd 27 (.rd 28 (.rd 29 (.rd 30 (.rd 31 (.rd 32 (.rd 33 (.wr 34 (.rd 35 .done)))))))))))))))))))))))))))))))))))) (by kernel_rfl) (by kernel_rfl) ?_
            (repeat (first | (refine Plan.tree_read (v := ?_) rfl rfl ?_ ?_; rotate_left; (focus ((intro wS hSw; have hkS := (bcell hSw).1; try (have hkT := fun (b o : Nat) (h : b < w.heap.size) => hkS b o (by first | omega | (simp; omega) | (simp; done))); go_simp); try with_reducible rfl)); simp only [Act.put, List.setIfInBounds_toArray, List.set_cons_zero, List.set_cons_succ]) | (refine Plan.tree_skip rfl rfl ?_; simp only [Act.put, List.setIfInBounds_toArray, List.set_cons_zero, List.set_cons_succ])))
            (refine Plan.tree_write rfl (fun K hK => ?_); try go_simp)
            (refine hK.out _ _ ((Below.refl _ _).drew) ?_; clear hK K; try simp only [Act.put, List.setIfInBounds_toArray, List.set_cons_zero, List.set_cons_succ])
            (repeat (first | (refine Plan.tree_read (v := ?_) rfl rfl ?_ ?_; rotate_left; (focus ((intro wS hSw; have hkS := (bcell hSw).1; try (have hkT := fun (b o : Nat) (h : b < w.heap.size) => hkS b o (by first | omega | (simp; omega) | (simp; done))); go_simp); try with_reducible rfl)); simp only [Act.put, List.setIfInBounds_toArray, List.set_cons_zero, List.set_cons_succ]) | (refine Plan.tree_skip rfl rfl ?_; simp only [Act.put, List.setIfInBounds_toArray, List.set_cons_zero, List.set_cons_succ])))
            refine Plan.tree_done ?_
            go_wp2_with fail
            go_roundw
            case rel => exact ⟨k + 1, by omega, by go_num, HN, hbx, hbd, hBw.drew, (show w.heap.size + 2 ≤ wr.heap.size by omega)⟩
            case measure => simp [intOf]; omega
          have HE2 : Hid ((L.take (k + 1)).any (earlyB X.l1 pl.length known d) = rightB X.l1 pl.length x.right) := by show _ = _; rw [HE.out]; unfold earlyB; rw [decide_eq_true xk, decide_eq_true xn, decide_eq_true xi]; rfl
          have HTK : Hid ((L.take (k + 1)).any (earlyB X.l1 pl.length known d) = true → (L.take i).any (earlyB X.l1 pl.length known d) = true) := fun h => by
            obtain ⟨z, h1, h2⟩ := List.any_eq_true.1 h
            refine List.any_eq_true.2 ⟨z, ?_, h2⟩
            exact List.Sublist.mem h1 (List.take_sublist_take_left (by omega))
          have KR1 := Lib.hid (KR.out x)
          have XK := Lib.hid xk
          have XI := Lib.hid xi
          have di : (x.right.id == d.right.id) = true := by simpa using xi
          clear xk xi HE
          cases hr : rightB X.l1 pl.length x.right with
          | true =>
            have HF : Hid (R = false) := by show _ = _; rw [HR.out, HTK.out (by rw [HE2.out]; exact hr)]; rfl
            rw [hr] at KR1
            clear hr
            go_wp2_with fail
            refine Plan.wp_region_tree (.rd 0 (.rd 1 (.rd 2 (.rd 3 (.rd 4 (.rd 5 (.rd 6 (.rd 7 (.rd 8 (.rd 9 (.rd 10 (.rd 11 (.rd 12 (.rd 13 (.rd 14 (.rd 15 (.rd 16 (.rd 17 (.rd 18 (.rd 19 (.rd 20 (.rd 21 (.rd 22 (.rd 23 (.rd 24 (.rd 25 (.rd 26 (.rd 27 (.rd 28 (.rd 29 (.rd 30 (.rd 31 (.rd 32 (.rd 33 (.wr 34 (.rd 35 .done)))))))))))))))))))))))))))))))))))) (by kernel_rfl) (by kernel_rfl) ?_
            (repeat (first | (refine Plan.tree_read (v := ?_) rfl rfl ?_ ?_; rotate_left; (focus ((intro wS hSw; have hkS := (bcell hSw).1; try (have hkT := fun (b o : Nat) (h : b < w.heap.size) => hkS b o (by first | omega | (simp; omega) | (simp; done))); go_simp); try with_reducible rfl)); simp only [Act.put, List.setIfInBounds_toArray, List.set_cons_zero, List.set_cons_succ]) | (refine Plan.tree_skip rfl rfl ?_; simp only [Act.put, List.setIfInBounds_toArray, List.set_cons_zero, List.set_cons_succ])))
            (refine Plan.tree_write rfl (fun K hK => ?_); try go_simp)
            go_at_call 10
            (with_reducible refine (KR1.out _).mono ?_)
            rintro e9 w9 ⟨rfl, hb9q⟩
            have hb9 : Below wr.heap.size wr w9 := Plan.below_drew_go hb9q
            clear hb9q
            (refine hK.out _ _ (hb9) ?_; clear hK K; try simp only [Act.put, List.setIfInBounds_toArray, List.set_cons_zero, List.set_cons_succ])
            (repeat (first | (refine Plan.tree_read (v := ?_) rfl rfl ?_ ?_; rotate_left; (focus ((intro wS hSw; have hkS := (bcell hSw).1; try (have hkT := fun (b o : Nat) (h : b < w.heap.size) => hkS b o (by first | omega | (simp; omega) | (simp; done))); go_simp); try with_reducible rfl)); simp only [Act.put, List.setIfInBounds_toArray, List.set_cons_zero, List.set_cons_succ]) | (refine Plan.tree_skip rfl rfl ?_; simp only [Act.put, List.setIfInBounds_toArray, List.set_cons_zero, List.set_cons_succ])))
            refine Plan.tree_done ?_
            go_wp2_with fail
            go_ret
            exact ⟨ret_bool HF.out.symm, hBw.trans (hb9.mono (by omega))⟩
          | false =>
            have HN : Hid ((L.take (k + 1)).any (earlyB X.l1 pl.length known d) = false) := by show _ = _; rw [HE2.out]; exact hr
            rw [hr] at KR1
            clear hr
            go_wp2_with fail
            refine Plan.wp_region_tree (.rd 0 (.rd 1 (.rd 2 (.rd 3 (.rd 4 (.rd 5 (.rd 6 (.rd 7 (.rd 8 (.rd 9 (.rd 10 (.rd 11 (.rd 12 (.rd 13 (.rd 14 (.rd 15 (.rd 16 (.rd 17 (.rd 18 (.rd 19 (.rd 20 (.rd 21 (.rd 22 (.rd 23 (.rd 24 (.rd 25 (.rd 26 (.rd 27 (.rd 28 (.rd 29 (.rd 30 (.rd 31 (.rd 32 (.rd 33 (.wr 34 (.rd 35 .done)))))))))))))))))))))))))))))))))))) (by kernel_rfl) (by kernel_rfl) ?_
            (repeat (first | (refine Plan.tree_read (v := ?_) rfl rfl ?_ ?_; rotate_left; (focus ((intro wS hSw; have hkS := (bcell hSw).1; try (have hkT := fun (b o : Nat) (h : b < w.heap.size) => hkS b o (by first | omega | (simp; omega) | (simp; done))); go_simp); try with_reducible rfl)); simp only [Act.put, List.setIfInBounds_toArray, List.set_cons_zero, List.set_cons_succ]) | (refine Plan.tree_skip rfl rfl ?_; simp only [Act.put, List.setIfInBounds_toArray, List.set_cons_zero, List.set_cons_succ])))
            (refine Plan.tree_write rfl (fun K hK => ?_); try go_simp)
            go_at_call 10
            (with_reducible refine (KR1.out _).mono ?_)
            rintro e9 w9 ⟨rfl, hb9q⟩
            have hb9 : Below wr.heap.size wr w9 := Plan.below_drew_go hb9q
            clear hb9q
            (refine hK.out _ _ (hb9) ?_; clear hK K; try simp only [Act.put, List.setIfInBounds_toArray, List.set_cons_zero, List.set_cons_succ])
            (repeat (first | (refine Plan.tree_read (v := ?_) rfl rfl ?_ ?_; rotate_left; (focus ((intro wS hSw; have hkS := (bcell hSw).1; try (have hkT := fun (b o : Nat) (h : b < w.heap.size) => hkS b o (by first | omega | (simp; omega) | (simp; done))); go_simp); try with_reducible rfl)); simp only [Act.put, List.setIfInBounds_toArray, List.set_cons_zero, List.set_cons_succ]) | (refine Plan.tree_skip rfl rfl ?_; simp only [Act.put, List.setIfInBounds_toArray, List.set_cons_zero, List.set_cons_succ])))
            refine Plan.tree_done ?_
            go_wp2_with fail
            go_roundw
            case rel => exact ⟨k + 1, by omega, by go_num, HN, hbx.below hb9 (by omega), hbd.below hb9 (by omega), hBw.trans (hb9.mono (by omega)), by have := hb9.size; omega⟩
            case measure => simp [intOf]; omega
        · have hke : k = i := by omega
          subst hke
          have HF : Hid (R = rightB X.l1 pl.length d.right) := by show _ = _; rw [HR.out, hE.out]; rfl
          have KR1 := Lib.hid (KR.out d)
          clear c0 c1 c2 c3 c4 c5 c6 c7 c8 c9 c10 c11 c12
          generalize rightB X.l1 pl.length d.right = R2 at *
          go_wp2_with (first | (go_at_call 10; (with_reducible refine (KR1.out _).mono ?_); rintro e3 w3 ⟨rfl, hb3⟩) | fail)
          go_ret
          exact ⟨ret_bool HF.out.symm, hBw.trans (hb3.mono (by omega))⟩
  have HR : Hid (countsB X.l1 pl.length day known L i d = appB X.l1 pl.length day d) := by show _ = _; unfold countsB; rw [decide_eq_true hkn, if_neg k0]; rfl
  have HA : Hid (appB X.l1 pl.length day d = if d.kind = 0 then rightB X.l1 pl.length d.right
    else if d.kind = 1 then wit d.right.owner 0 (X.l1 - 1) && (decide (d.from1 ≤ day) && decide (day ≤ d.until1))
    else if d.kind = 2 then wit d.right.place 0 (pl.length - 1) && (decide (d.from1 ≤ day) && decide (day ≤ d.until1))
    else if d.kind = 3 then decide (d.from1 ≤ day)
    else false) := rfl
  rw [he1, he2] at HA
  have b0 : (d.kind == 0) = false := by simpa using k0
  have q0 : ¬ d.kind = 0 := k0
  clear hd
  by_cases k1 : d.kind = 1
  · obtain ⟨bo, ho⟩ : ∃ c, wit d.right.owner 0 (X.l1 - 1) = c := ⟨_, rfl⟩
    have HX : Hid (countsB X.l1 pl.length day known L i d = (bo && (e1 && e2))) := by show _ = _; rw [HR.out, HA.out, if_neg k0, if_pos k1, ho]
    have b1 : (d.kind == 1) = true := by simpa using k1
    have K : Hid (∀ wx, Calls Tryd.prog 24 #[.int .i64 d.right.owner, .int .i64 0, .int .i64 ((X.l1 : Int) - 1)] wx fun e w' => e = .returned (.bool bo) ∧ wx = w') := fun wx => by rw [← ho]; exact rin3_any _ _ _ wx
    generalize countsB X.l1 pl.length day known L i d = R2 at HX HR ⊢
    clear HR HA k0 k1 ho q0
    cases bo <;> cases e1 <;> cases e2
    all_goals
      go_enter Tryd.func36, Tryd.ntmps36
      go_wp2_with (first | (go_at_call 24; (with_reducible refine (K.out _).mono ?_); rintro e1 w1 ⟨rfl, rfl⟩) | fail)
      go_ret
      exact ⟨ret_bool (by rw [HX.out]; rfl), hB0⟩
  have b1 : (d.kind == 1) = false := by simpa using k1
  by_cases k2 : d.kind = 2
  · obtain ⟨bo, ho⟩ : ∃ c, wit d.right.place 0 (pl.length - 1) = c := ⟨_, rfl⟩
    have HX : Hid (countsB X.l1 pl.length day known L i d = (bo && (e1 && e2))) := by show _ = _; rw [HR.out, HA.out, if_neg k0, if_neg k1, if_pos k2, ho]
    have b2 : (d.kind == 2) = true := by simpa using k2
    have K : Hid (∀ wx, Calls Tryd.prog 24 #[.int .i64 d.right.place, .int .i64 0, .int .i64 ((pl.length : Int) - 1)] wx fun e w' => e = .returned (.bool bo) ∧ wx = w') := fun wx => by rw [← ho]; exact rin3_any _ _ _ wx
    generalize countsB X.l1 pl.length day known L i d = R2 at HX HR ⊢
    clear HR HA k0 k1 k2 ho q0
    cases bo <;> cases e1 <;> cases e2
    all_goals
      go_enter Tryd.func36, Tryd.ntmps36
      go_wp2_with (first | (go_at_call 24; (with_reducible refine (K.out _).mono ?_); rintro e1 w1 ⟨rfl, rfl⟩) | fail)
      go_ret
      exact ⟨ret_bool (by rw [HX.out]; rfl), hB0⟩
  have b2 : (d.kind == 2) = false := by simpa using k2
  by_cases k3 : d.kind = 3
  · have HX : Hid (countsB X.l1 pl.length day known L i d = e1) := by show _ = _; rw [HR.out, HA.out, if_neg k0, if_neg k1, if_neg k2, if_pos k3]
    have b3 : (d.kind == 3) = true := by simpa using k3
    generalize countsB X.l1 pl.length day known L i d = R2 at HX HR ⊢
    clear HR HA k0 k1 k2 k3 q0
    cases e1 <;> cases e2
    all_goals
      go_enter Tryd.func36, Tryd.ntmps36
      go_wp2_with fail
      go_ret
      exact ⟨ret_bool HX.out.symm, hB0⟩
  have b3 : (d.kind == 3) = false := by simpa using k3
  have HX : Hid (countsB X.l1 pl.length day known L i d = false) := by show _ = _; rw [HR.out, HA.out, if_neg k0, if_neg k1, if_neg k2, if_neg k3]
  generalize countsB X.l1 pl.length day known L i d = R2 at HX HR ⊢
  clear HR HA k0 k1 k2 k3 q0
  cases e1 <;> cases e2
  all_goals
    go_enter Tryd.func36, Tryd.ntmps36
    go_wp2_with fail
    go_ret
    exact ⟨ret_bool HX.out.symm, hB0⟩
end Go.Proofs.YtchmplnkddgncaaDoor
