/- The walk of Balanced. -/
import Derived.Test.YtokhapchagffkaaGX
import Derived.Test.YtokhapchagffkaaGP
import Derived.Maps.RangeRun
import Derived.Laws.StructEq
set_option linter.unusedSimpArgs false
set_option linter.unusedVariables false
namespace Go.Proofs.Ytokhapchagffkaa
open Go.RowKit LG GP
attribute [local go_sem] alloc_drewN setCell_drewN shape_drewN

def keyV (x : Int × Int) : Value := .agg #[.int .i64 x.1, .int .i64 x.2]
theorem Try.eqWhen (x y : Int × Int) (w : World) : (Op.equal 49 (keyV x) (keyV y)).run Try.prog w = .ok (decide (x = y)) w := by
  have h : (Op.equalIn 10000 49 (keyV x) (keyV y)).run Try.prog w = .ok (decide (x = y)) w := by
    unfold keyV
    by_cases h1 : x.1 = y.1
    · by_cases h2 : x.2 = y.2
      · rw [decide_eq_true (Prod.ext h1 h2)]
        have g1 : (x.1 == y.1) = true := by simpa using h1
        have g2 : (x.2 == y.2) = true := by simpa using h2
        go_simp
      · rw [decide_eq_false (fun e => h2 (by rw [e]))]
        have g1 : (x.1 == y.1) = true := by simpa using h1
        have g2 : (x.2 == y.2) = false := by simpa using h2
        go_simp
    · rw [decide_eq_false (fun e => h1 (by rw [e]))]
      have g1 : (x.1 == y.1) = false := by simpa using h1
      go_simp
  exact h
theorem Try.keyWhen : KeyX Try.prog 49 keyV := by
  refine struct_keyX Try.underlying49 (fun em x w => ?_) Try.eqWhen (fun x => ?_)
  · have h : ∀ n, (Instr.checkKey em (n + 2) 49 (keyV x)).run Try.prog w = .ok () w := fun n => by
      unfold keyV
      rw [Instr.checkKey]
      simp [go_sem, run_underlying Try.underlying49, Instr.checkKey, Result.andThen]
    exact h 9998
  · simp [keyV, Instr.sameBits]
theorem Try.zeroInts (w : World) : (zeroValue 44).run Try.prog w = .ok (.slice none 0 0) w := by kernel_rfl

section
variable {P : Program} {α : Type} [DecidableEq α] {base b : Nat} {f : α → Value} {te : TypeId} {es : Array MapEntry} {clock : Nat} {m : List (α × List Int)}
theorem wpList_entryX (w : World) {ops : Array Oper} {rest : List Oper} {o : Oper} {a : Act} {Q : Exit → Act → World → Prop}
    (hg : o.guard = none) (mo xo : Operand) (t : TypeId) (hop : o.op = Op.mapEntry t mo xo) (k E : TypeId) (K : KeyX P k f) (ht : P.underlying t = some (.map k E)) (hz : ∀ u : World, (zeroValue E).run P u = .ok (.slice none 0 0) u)
    (hm : a.eval mo = .map (some b)) (hown : GrpE w base b f te es clock m) (x : α) (hx : a.eval xo = f x)
    (hK : ∀ (es1 : Array MapEntry) (clock1 i : Nat) (e1 : MapEntry) (L : List Int) (m1 : List (α × List Int)) (w1 : World), GrpE w1 base b f te es1 clock1 m1 → es1[i]? = some e1 → m1[i]? = some (x, L) → ((m1 = m) ∨ (x ∉ m.map (·.1) ∧ L = [] ∧ m1 = m ++ [(x, [])])) → w.grownBy w1 (some b) → w1.heap.size = w.heap.size →
      wpList P ops Q rest (a.put o.dst (.tuple #[e1.val, goInt e1.born])) w1) : wpList P ops Q (o :: rest) a w := by
  refine wpList_plain hg fun K' hK' => ?_
  obtain ⟨es1, clock1, i, e1, L, m1, hrun, r1, r2, r3, r4⟩ := hown.entry K ht hz x
  unfold Oper.wp
  simp [execOp, hop, hm, hx, hrun, Result.andThen]
  exact hK' _ _ (hK es1 clock1 i e1 L m1 _ r1 r2 r3 r4 ⟨rfl, rfl, rfl, by simp [Go.ChangeMaps.setBlock], fun i _ hi => Go.ChangeMaps.heap_setBlock_other hown.hb _ (fun e => hi (by rw [e]))⟩ (by simp [Go.ChangeMaps.setBlock]))
omit [DecidableEq α] in
theorem wpList_storeX (w w1 : World) {ops : Array Oper} {rest : List Oper} {o : Oper} {a : Act} {Q : Exit → Act → World → Prop}
    (hg : o.guard = none) (mo so vo : Operand) (t : TypeId) (hop : o.op = Op.entryStore t mo so vo) (hown : GrpE w1 base b f te es clock m) {i : Nat} {e1 : MapEntry} {x : α} {L : List Int} (L' : List Int) {v' : Value}
    (hm : a.eval mo = .map (some b)) (hs : a.eval so = goInt e1.born) (hv : a.eval vo = v') (he : es[i]? = some e1) (hp : m[i]? = some (x, L)) (hgr : w1.grownBy w e1.val.ownBlock)
    (hrow : w.ownsRow base te 1 v' L'.length (L'.map (Value.int .i64))) (hat : v'.ownBlock = e1.val.ownBlock ∨ v'.ownBlock = some w1.heap.size)
    (hK : ∀ (es' : Array MapEntry) (w3 : World), GrpE w3 base b f te es' clock (m.set i (x, L')) → w.grownBy w3 (some b) → wpList P ops Q rest (a.put o.dst undef) w3) : wpList P ops Q (o :: rest) a w := by
  refine wpList_plain hg fun K' hK' => ?_
  obtain ⟨es', w3, hrun, r1, r2⟩ := hown.store (t := t) (P := P) he hp hgr hrow hat
  unfold Oper.wp
  simp [execOp, hop, hm, hs, hv, hrun, Result.andThen]
  exact hK' _ _ (hK es' w3 r1 r2)
end
/-- The entries up to k that are known. -/
def knownT (l : List Et) (known : Int) (k : Nat) : List Et := (l.take k).filter (fun e => decide (e.known ≤ known))
theorem knownT_succ {l : List Et} {known : Int} {k : Nat} {e : Et} (h : l[k]? = some e) : knownT l known (k + 1) = if e.known ≤ known then knownT l known k ++ [e] else knownT l known k := by
  unfold knownT
  rw [List.take_add_one, h]
  by_cases hp : e.known ≤ known <;> simp [hp]
def zeroP (L : List Int) : Bool := (sumX L).2 && decide ((sumX L).1 = 0)
theorem born_inj' {es : List MapEntry} (hn : (es.map (·.born)).Nodup) {i j : Nat} {x y : MapEntry} (hx : es[i]? = some x) (hy : es[j]? = some y) (h : x.born = y.born) : i = j :=
  nodup_get hn (x := x.born) (by rw [List.getElem?_map, hx]; rfl) (by rw [List.getElem?_map, hy, h]; rfl)
theorem all_seen' (es : Array MapEntry) (seen : Array Nat) (h : (leftOf es seen).size = 0) : ∀ x ∈ es.toList, seen.contains x.born = true := fun x hx => by
  cases hc : seen.contains x.born with
  | true => rfl
  | false =>
    have : x ∈ leftOf es seen := Array.mem_filter.2 ⟨Array.mem_toList_iff.1 hx, by rw [hc]; rfl⟩
    have := Array.eq_empty_of_size_eq_zero h ▸ this
    simp at this
theorem vals_le {m : List ((Int × Int) × List Int)} {l : List Et} (h : GP.Good m l) : ∀ p ∈ m, p.2.length ≤ l.length ∧ ∀ x ∈ p.2, ∃ e ∈ l, e.litres = x := fun p hp => by
  rw [h.val p hp]
  refine ⟨by unfold lits; rw [List.length_map]; exact List.length_filter_le _ _, fun x hx => ?_⟩
  obtain ⟨e, he, rfl⟩ := List.mem_map.1 hx
  exact ⟨e, (List.mem_filter.1 he).1, rfl⟩
set_option maxRecDepth 100000 in
set_option maxHeartbeats 8000000 in
theorem balanced_any (l : List Et) (C : Option Addr) (cc : Nat) (known : Int) (w : World) {B : Nat} (hC : EntsAt w B C l) (hB : B ≤ w.heap.size) (hl : l.length ≤ 1000000) (hI : LitsIn l) :
    Calls Try.prog 14 #[.slice C l.length cc, .int .i64 known] w (BoolIs (balanced l known) w) := by
  obtain ⟨i0, hi, hz0, hz1, hz2⟩ := info_parts Try.infoInt
  have hmm := @run_makeMap Try.prog
  go_enter Try.func14, Try.ntmps14
  go_wp2_with fail
  clear hmm
  go_loopw [16] (fun i wr => ∃ (k : Nat) (es : Array MapEntry) (clock : Nat) (m : List ((Int × Int) × List Int)), k ≤ l.length ∧ i = .int .i64 k ∧ Hid (GrpE wr (w.heap.size + 1) w.heap.size keyV 3 es clock m) ∧ Hid (GP.Good m (knownT l known k)) ∧ Below w.heap.size w wr ∧ w.heap.size + 1 ≤ wr.heap.size) (fun i _ => l.length - (intOf i).toNat)
  case atStart => exact ⟨0, #[], 0, [], Nat.zero_le _, rfl, GrpE.made w keyV _, GP.Good.nil, (Below.refl _ _).alloc (Nat.le_refl _) _, by simp⟩
  case round =>
    obtain ⟨k, es, clock, m, hk, rfl, hG, hM, hBw, hz⟩ := hrel
    by_cases hlt : k < l.length
    · obtain ⟨e, hx⟩ : ∃ e, l[k]? = some e := ⟨_, List.getElem?_eq_getElem hlt⟩
      obtain ⟨b, off, rfl, hb, r0, r1, r2, r3, r4, r5, r6⟩ := (hC.below (hBw.mono hB)).at_ hx
      have HS := Lib.hid (knownT_succ (known := known) hx)
      have hbw : b < wr.heap.size := by omega
      clear hx
      by_cases hkn : e.known ≤ known
      · have d1 : decide (e.known ≤ known) = true := decide_eq_true hkn
        have HS2 : Hid (knownT l known (k + 1) = knownT l known k ++ [e]) := by show _ = _; rw [HS.out, if_pos hkn]
        clear HS
        obtain ⟨W3, hW3⟩ : ∃ W3, W3 = (((wr.alloc (.cells #[.int .i64 e.day, .int .i64 e.known, .int .i64 e.owner, .int .i64 e.place, .int .i64 e.litres, .int .i64 e.why, .int .i64 e.ref] 36)).alloc (.cells #[.int .i64 e.day, .int .i64 e.known] 49)).alloc (.cells #[.int .i64 e.litres] 3)) := ⟨_, rfl⟩
        have hb3 : Below wr.heap.size wr W3 := by rw [hW3]; exact ((((Below.refl _ _).alloc (Nat.le_refl _) _).alloc (by simp) _).alloc (by simp; omega) _)
        have hz3 : W3.heap.size = wr.heap.size + 1 + 1 + 1 := by rw [hW3]; simp
        have hc3 : W3.cell? ⟨wr.heap.size + 1 + 1, 0, none⟩ = some (.int .i64 e.litres) := by rw [hW3, World.cell?_alloc_at _ _ _ _ (by simp)]; rfl
        obtain ⟨es1, clock1, i1, e1, L, m1, hrun, hG1, he1, hp1, hm1⟩ := (hG.out.below hb3).entry (P := Try.prog) (t := 47) Try.keyWhen Try.underlying47 Try.zeroInts (e.day, e.known)
        have hg1 : W3.grownBy (Go.ChangeMaps.setBlock W3 w.heap.size (.map es1 clock1)) (some w.heap.size) := ⟨rfl, rfl, rfl, by simp [Go.ChangeMaps.setBlock], fun i _ hi => Go.ChangeMaps.heap_setBlock_other (hG.out.below hb3).hb _ (fun e => hi (by rw [e]))⟩
        have hz1' : (Go.ChangeMaps.setBlock W3 w.heap.size (.map es1 clock1)).heap.size = W3.heap.size := by simp [Go.ChangeMaps.setBlock]
        generalize Go.ChangeMaps.setBlock W3 w.heap.size (.map es1 clock1) = w1 at hrun hG1 hg1 hz1'
        have hc1 : w1.cell? ⟨wr.heap.size + 1 + 1, 0, none⟩ = some (.int .i64 e.litres) := (Plan.grown_cells hg1 _ _ (by omega) (by simp; omega)).trans hc3
        have hrow1 := Lib.hid (hG1.row i1 e1 _ he1 hp1)
        have hB1 : Hid (Below w.heap.size w w1) := (hBw.trans (hb3.mono (by omega))).grown hg1 (by omega) (fun j hj => by cases hj; exact Nat.le_refl _)
        have hGd := Lib.hid (hM.out.step (e := e) hm1 hp1)
        have HL : Hid (L.length ≤ 1000000) := by
          show _ ≤ _
          have h1 := (hM.out.step (e := e) hm1 hp1).val _ (List.mem_of_getElem? (show (m1.set i1 (keyE e, L ++ [e.litres]))[i1]? = some (keyE e, L ++ [e.litres]) by rw [List.getElem?_set]; simp [(List.getElem?_eq_some_iff.1 hp1).1]))
          have h2 := congrArg List.length h1
          have h3 : (lits ((knownT l known k ++ [e]).filter (fun x => decide (keyE x = keyE e)))).length ≤ (knownT l known k ++ [e]).length := by unfold lits; rw [List.length_map]; exact List.length_filter_le _ _
          have h4 : (knownT l known k).length ≤ k := by unfold knownT; exact Nat.le_trans (List.length_filter_le _ _) (by rw [List.length_take]; omega)
          simp only [List.length_append, List.length_cons, List.length_nil] at h2 h3
          have h5 : (lits ((knownT l known k ++ [e]).filter (fun x => decide (keyE x = keyE e)))).length = L.length + 1 := h2.symm
          omega
        simp only [keyV, goInt] at hrun
        have HG1 := Lib.hid hG1
        clear hG hM hm1 hg1 hb3 hc3 hG1 hBw
        have hll : L.length ≤ 1000000 := HL.out
        rw [hW3] at hrun
        go_wp2_with (first | (at_builtin; go_loud (refine wpList_append_own_at _ rfl _ _ 44 rfl (w.heap.size + 1) 3 i0 (.int .i64 0) 1 8 Try.underlying44 hi hz0 hz1 hz2 rfl (by decide) e1.val L.length _ rfl hrow1.out ⟨wr.heap.size + 1 + 1, 0, none⟩ 1 1 [.int .i64 e.litres] rfl rfl (by intro j u hj; cases j with | zero => (simp at hj; subst hj; simpa [Addr.add] using hc1) | succ j => simp at hj) (by simp [Value.oneCell']) (by unfold maxLen; omega) (by omega) (by omega) ?_); intro v' w2 hown' hgrow _ hat; obtain ⟨es', w3, hrun2, hG3, hg3⟩ := HG1.out.store (t := 47) (P := Try.prog) (L' := L ++ [e.litres]) he1 hp1 hgrow (by rw [List.map_append, List.length_append]; exact hown') hat; simp only [goInt] at hrun2) | fail)
        have hB1b := hB1.out
        have hbq : Below w.heap.size w w3 := (hB1b.grown hgrow hB1b.size (fun j hj => by have := (HG1.out.val_lt he1 hj).1; omega)).grown hg3 (Nat.le_trans hB1b.size hgrow.size) (fun j hj => by cases hj; exact Nat.le_refl _)
        have hzq : w.heap.size + 1 ≤ w3.heap.size := by have := hgrow.size; have := hg3.size; omega
        go_roundw
        case rel => exact ⟨k + 1, es', clock1, _, by omega, by go_num, hG3, (show GP.Good _ _ by rw [HS2.out]; exact hGd.out), hbq, hzq⟩
        case measure => simp [intOf]; omega
      · have d1 : decide (e.known ≤ known) = false := decide_eq_false hkn
        have HS2 : Hid (knownT l known (k + 1) = knownT l known k) := by show _ = _; rw [HS.out, if_neg hkn]
        clear HS
        go_wp2_with fail
        go_roundw
        case rel => exact ⟨k + 1, es, clock, m, by omega, by go_num, hG.out.below ((Below.refl _ _).alloc (Nat.le_refl _) _), (show GP.Good _ _ by rw [HS2.out]; exact hM.out), hBw.alloc (by omega) _, by simp; omega⟩
        case measure => simp [intOf]; omega
    · have hke : k = l.length := by omega
      subst hke
      have hR : Hid (balanced l known = m.all (fun p => zeroP p.2)) := by
        have h := hM.out
        unfold knownT at h
        rw [List.take_length] at h
        exact h.balanced
      have hv := vals_le hM.out
      have hkl : (knownT l known l.length).length ≤ l.length := by unfold knownT; exact Nat.le_trans (List.length_filter_le _ _) (by rw [List.length_take]; omega)
      have hki : ∀ e ∈ knownT l known l.length, e ∈ l := fun e he => List.mem_of_mem_take (List.mem_filter.1 he).1
      have HV : Hid (∀ p ∈ m, p.2.length ≤ 1000000 ∧ ∀ x ∈ p.2, In64 x) := fun p hp => ⟨by have := (hv p hp).1; omega, fun x hx => by
        obtain ⟨e, he, rfl⟩ := (hv p hp).2 x hx
        exact hI e (hki e he)⟩
      clear hv hkl hki hM
      obtain ⟨wo, rfl⟩ : ∃ wo, wo = wr := ⟨_, rfl⟩
      have hrg := run_range_map (P := Try.prog) wo 47 49 44 w.heap.size es clock Try.underlying47 hG.out.hb
      go_wp2_with fail
      clear hrg
      have hri := heap_alloc_new wo (.mapIter (some w.heap.size) clock #[] clock)
      have hbi : Below wo.heap.size wo (wo.alloc (.mapIter (some w.heap.size) clock #[] clock)) := (Below.refl _ _).alloc (Nat.le_refl _) _
      generalize wo.alloc (.mapIter (some w.heap.size) clock #[] clock) = w0 at hri hbi ⊢
      go_loopw [] (fun w1 => ∃ (seen : Array Nat), w1.heap[wo.heap.size]? = some (.mapIter (some w.heap.size) clock seen clock) ∧ Below wo.heap.size wo w1 ∧ Hid (∀ (i : Nat) (e : MapEntry) (p : (Int × Int) × List Int), es[i]? = some e → m[i]? = some p → seen.contains e.born = true → zeroP p.2 = true)) (fun w1 => (leftOf es (w1.iterSeen wo.heap.size)).size)
      case atStart => exact ⟨#[], hri, hbi, fun i e p _ _ h => by simp at h⟩
      case round =>
        clear hri hbi
        obtain ⟨seen, hr1, hb1, hno⟩ := hrel
        have hG1 := hG.out.below hb1
        have law := run_next_at (P := Try.prog) wr 0 wo.heap.size w.heap.size clock clock seen es clock hr1 hG1.hb hG1.old (Nat.le_refl _)
        have hBf : Below w.heap.size w wr := hBw.trans (hb1.mono (by omega))
        rcases law with ⟨h0, hrun⟩ | ⟨e, he, w2, hal2, hrun⟩
        · have hnx : ∀ ty, (Instr.next (.pointer (some ⟨wo.heap.size, 0, none⟩)) false ty).run Try.prog wr = _ := fun _ => hrun
          have hT : Hid (balanced l known = true) := by
            show _ = _
            rw [hR.out, List.all_eq_true]
            intro p hp
            obtain ⟨i, hip⟩ := List.mem_iff_getElem?.1 hp
            obtain ⟨e, hie⟩ : ∃ e, es[i]? = some e := ⟨_, Array.getElem?_eq_getElem (by rw [hG.out.len]; exact (List.getElem?_eq_some_iff.1 hip).1)⟩
            exact hno.out i e p hie hip (all_seen' es seen h0 e (Array.mem_toList_iff.2 (Array.mem_of_getElem? hie)))
          go_wp2_with fail
          go_ret
          exact ⟨ret_bool hT.out.symm, hBf⟩
        · have hnx : ∀ ty, (Instr.next (.pointer (some ⟨wo.heap.size, 0, none⟩)) false ty).run Try.prog wr = _ := fun _ => hrun
          obtain ⟨hem, hes⟩ := mem_left he
          have hlw : Below wo.heap.size wr w2 := by rcases hal2 with rfl | rfl <;> exact ⟨rfl, rfl, rfl, Nat.le_refl _, fun _ _ => rfl⟩
          have hh2 : w2.heap = wr.heap := by rcases hal2 with rfl | rfl <;> rfl
          have hr2 : (Go.ChangeMaps.setBlock w2 wo.heap.size (.mapIter (some w.heap.size) clock (seen.push e.born) clock)).heap[wo.heap.size]? = some (.mapIter (some w.heap.size) clock (seen.push e.born) clock) := by
            show (w2.heap.setIfInBounds _ _)[_]? = _
            rw [Array.getElem?_setIfInBounds, if_pos rfl, if_pos (by rw [hh2]; exact (Array.getElem?_eq_some_iff.1 hr1).1)]
          have hb2 : Below wo.heap.size wo (Go.ChangeMaps.setBlock w2 wo.heap.size (.mapIter (some w.heap.size) clock (seen.push e.born) clock)) := by
            refine hb1.trans (hlw.trans ⟨rfl, rfl, rfl, by simp [Go.ChangeMaps.setBlock], fun j hj => ?_⟩)
            show (w2.heap.setIfInBounds _ _)[j]? = w2.heap[j]?
            rw [Array.getElem?_setIfInBounds, if_neg (by omega)]
          generalize Go.ChangeMaps.setBlock w2 wo.heap.size (.mapIter (some w.heap.size) clock (seen.push e.born) clock) = w3 at hnx hr2 hb2
          have hG3 := hG.out.below hb2
          have hen := run_entry_at (P := Try.prog) w3 wo.heap.size w.heap.size clock seen es clock e hr2 hG3.hb hem hG3.nd
          obtain ⟨i, hie⟩ := List.mem_iff_getElem?.1 hem
          rw [Array.getElem?_toList] at hie
          obtain ⟨p, hip⟩ : ∃ p, m[i]? = some p := ⟨_, List.getElem?_eq_getElem (by rw [← hG3.len]; exact (Array.getElem?_eq_some_iff.1 hie).1)⟩
          obtain ⟨D, cd, hval, hD⟩ := ints_of_owns (hG3.row i e p hie hip)
          obtain ⟨hpl, hpi⟩ := HV.out p (List.mem_of_getElem? hip)
          have K := Lib.hid (sum_any p.2 D cd w3 hD (by omega) hpi)
          have hzp : Hid (zeroP p.2 = ((sumX p.2).2 && decide ((sumX p.2).1 = 0))) := rfl
          have HIE := Lib.hid hie
          have HIP := Lib.hid hip
          have HEM := Lib.hid hem
          have HHE := Lib.hid he
          have HBf : Hid (Below w.heap.size w w3) := hBw.trans (hb2.mono (by omega))
          rw [hval] at hnx hen
          obtain ⟨L, hL⟩ : ∃ L, L = p.2 := ⟨_, rfl⟩
          have HL := Lib.hid hL
          rw [← hL] at K hzp hnx hen
          obtain ⟨sv, hsv⟩ : ∃ sv, (sumX L).1 = sv := ⟨_, rfl⟩
          obtain ⟨so, hso⟩ : ∃ so, (sumX L).2 = so := ⟨_, rfl⟩
          have K2 : Hid (Calls Try.prog 26 #[.slice D L.length cd] w3 fun x w' => x = .returned (.tuple #[.int .i64 sv, .bool so]) ∧ w3 = w') := by rw [← hsv, ← hso]; exact K.out
          rw [hsv, hso] at hzp
          clear K hie hip hem he hL hpl hpi hsv hso hval hrun hal2 hlw hh2 hD
          cases so with
          | false =>
            have hF : Hid (balanced l known = false) := by
              show _ = _
              rw [hR.out, List.all_eq_false]
              exact ⟨p, List.mem_of_getElem? HIP.out, by rw [← HL.out, hzp.out]; simp⟩
            go_wp2_with (first | (go_at_call 26; (with_reducible refine K2.out.mono ?_); rintro x1 w4 ⟨rfl, rfl⟩) | fail)
            go_ret
            exact ⟨ret_bool hF.out.symm, HBf.out⟩
          | true =>
            by_cases hs0 : sv = 0
            · subst hs0
              have hZ : Hid (zeroP L = true) := hzp.out
              clear hzp
              go_wp2_with (first | (go_at_call 26; (with_reducible refine K2.out.mono ?_); rintro x1 w4 ⟨rfl, rfl⟩) | fail)
              go_roundw
              case rel =>
                refine ⟨seen.push e.born, hr2, hb2, fun j e' q hj hq hc => ?_⟩
                rw [contains_push] at hc
                rcases Bool.or_eq_true _ _ ▸ hc with h1 | h1
                · exact hno.out j e' q hj hq h1
                · have : j = i := born_inj' hG3.nd (by rw [Array.getElem?_toList]; exact hj) (by rw [Array.getElem?_toList]; exact HIE.out) (beq_iff_eq.1 h1)
                  subst this
                  have := HIP.out
                  rw [hq] at this
                  cases this
                  rw [← HL.out]; exact hZ.out
              case measure =>
                unfold World.iterSeen
                rw [hr1, hr2]
                exact left_shrinks es seen e HHE.out
            · have hF : Hid (balanced l known = false) := by
                show _ = _
                rw [hR.out, List.all_eq_false]
                exact ⟨p, List.mem_of_getElem? HIP.out, by rw [← HL.out, hzp.out, decide_eq_false hs0]; simp⟩
              have d0 : (sv != 0) = true := by simpa using hs0
              go_wp2_with (first | (go_at_call 26; (with_reducible refine K2.out.mono ?_); rintro x1 w4 ⟨rfl, rfl⟩) | fail)
              go_ret
              exact ⟨ret_bool hF.out.symm, HBf.out⟩
end Go.Proofs.Ytokhapchagffkaa
