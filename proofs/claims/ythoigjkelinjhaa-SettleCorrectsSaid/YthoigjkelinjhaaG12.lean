/- The walk of named. (Printed by gen_g12.py.) -/
import Derived.Test.YthoigjkelinjhaaG7
import Derived.Test.YthoigjkelinjhaaG8
import Derived.Test.YthoigjkelinjhaaTabR
set_option linter.unusedSimpArgs false
set_option linter.unusedVariables false
namespace Go.Proofs.Ythoigjkelinjhaa.RT
open Go.RowKit BV
attribute [local go_sem] alloc_drewN setCell_drewN shape_drewN

def ad (o : Option Nat) : Option Addr := o.map fun g => ⟨g, 0, none⟩
theorem ad_block {o : Option Nat} {n c : Nat} : (Value.slice (ad o) n c).ownBlock = o := by cases o <;> rfl
theorem ad_of_owns {w : World} {base e size n : Nat} {v : Value} {xs : List Value} (h : w.ownsRow base e size v n xs) : ∃ o c, v = .slice (ad o) n c ∧ v.ownBlock = o := by
  rcases h.2 with ⟨rfl, rfl⟩ | ⟨g, cap, cur, rfl, _⟩
  · exact ⟨none, 0, rfl, rfl⟩
  · exact ⟨some g, cap, rfl, rfl⟩
theorem info_parts2 {P : Program} {t : TypeId} {z : Value} {s b : Nat} (h : (P.info? t).map (fun i => (i.zero, i.size, i.bytes)) = some (some z, s, b)) : ∃ i, P.info? t = some i ∧ i.zero = some z ∧ i.size = s ∧ i.bytes = b := by
  cases e : P.info? t with
  | none => rw [e] at h; cases h
  | some i => rw [e] at h; simp at h; exact ⟨i, rfl, h.1, h.2.1, h.2.2⟩
theorem infoStrs : (Try.prog.info? 22).map (fun i => (i.zero, i.size, i.bytes)) = some (some (.slice none 0 0), 1, 24) := by kernel_rfl
theorem infoStr : (Try.prog.info? 9).map (fun i => (i.zero, i.size, i.bytes)) = some (some (.string ⟨#[]⟩), 1, 16) := by kernel_rfl
def encS (s : ByteArray) : List Value := [.string s]
theorem encS_map : ∀ L : List ByteArray, L.flatMap encS = L.map Value.string
  | [] => rfl
  | s :: L => by rw [List.flatMap_cons, encS_map L]; rfl
theorem sl_of_row {w : World} {base n c : Nat} {o : Option Nat} {L : List ByteArray} (h : w.ownsRow base 9 1 (.slice (ad o) n c) n (L.flatMap encS)) (hn : L.length = n) (hs : ∀ s ∈ L, s.size ≤ 9223372036854775807) (hb : n ≤ 9223372036854775807) : Sl w w.heap.size 9 1 (ad o) n := by
  refine ⟨hb, 1, fun hp => ?_⟩
  obtain ⟨_, hr⟩ := Reads.of_own h
  obtain ⟨a, ea, hab, hc⟩ := hr hp
  cases o with
  | none => cases ea
  | some g =>
    obtain rfl : (⟨g, 0, none⟩ : Addr) = a := Option.some.inj ea
    refine ⟨g, 0, rfl, hab, fun i hi => ⟨encS (L[i]'(by omega)), rfl, fun j u hu => ?_, ?_⟩⟩
    · have hj : j = 0 := by
        have := (List.getElem?_eq_some_iff.1 hu).1
        simp [encS] at this; exact this
      subst hj
      have e := hc i u (by rw [encS_map, List.getElem?_map, List.getElem?_eq_getElem (by omega)]; simpa [encS] using hu)
      rw [Addr.add_lit] at e
      simpa using e
    · unfold Okv
      rw [Try.underlying9]
      exact ⟨_, hs _ (List.getElem_mem _), rfl⟩
theorem namePv {w : World} {B n : Nat} {cs : List Value} (h : Okv Try.prog w B n 91 cs) : ∃ s : ByteArray, s.size ≤ 9223372036854775807 ∧ cs[0]? = some (.string s) := by
  obtain ⟨hc, fs, hu, hsz, hty⟩ := fieldsPv
  obtain ⟨hl, m, hf⟩ := Okv.fields hu h
  have hj2 : fs[0]? = some (fs[0]'(by omega)) := Array.getElem?_eq_getElem _
  have q := hf 0 _ hj2
  have e := congrArg (fun a => a[0]?) hty
  simp only [Array.getElem?_map, hj2] at e
  simp at e
  obtain ⟨e1, e2, e3⟩ := e
  rw [e3, e2, e1] at q
  obtain ⟨z, hz, r⟩ := Okv.str Try.underlying9 q
  exact ⟨z, hz, one_of r⟩
theorem nameLk {w : World} {B n : Nat} {cs : List Value} (h : Okv Try.prog w B n 108 cs) : ∃ s : ByteArray, s.size ≤ 9223372036854775807 ∧ cs[0]? = some (.string s) := by
  obtain ⟨hc, fs, hu, hsz, hty⟩ := fieldsLk
  obtain ⟨hl, m, hf⟩ := Okv.fields hu h
  have hj2 : fs[0]? = some (fs[0]'(by omega)) := Array.getElem?_eq_getElem _
  have q := hf 0 _ hj2
  have e := congrArg (fun a => a[0]?) hty
  simp only [Array.getElem?_map, hj2] at e
  simp at e
  obtain ⟨e1, e2, e3⟩ := e
  rw [e3, e2, e1] at q
  obtain ⟨z, hz, r⟩ := Okv.str Try.underlying9 q
  exact ⟨z, hz, one_of r⟩
theorem nameTn {w : World} {B n : Nat} {cs : List Value} (h : Okv Try.prog w B n 110 cs) : ∃ s : ByteArray, s.size ≤ 9223372036854775807 ∧ cs[0]? = some (.string s) := by
  obtain ⟨hc, fs, hu, hsz, hty⟩ := fieldsTn
  obtain ⟨hl, m, hf⟩ := Okv.fields hu h
  have hj2 : fs[0]? = some (fs[0]'(by omega)) := Array.getElem?_eq_getElem _
  have q := hf 0 _ hj2
  have e := congrArg (fun a => a[0]?) hty
  simp only [Array.getElem?_map, hj2] at e
  simp at e
  obtain ⟨e1, e2, e3⟩ := e
  rw [e3, e2, e1] at q
  obtain ⟨z, hz, r⟩ := Okv.str Try.underlying9 q
  exact ⟨z, hz, one_of r⟩
theorem nameGg {w : World} {B n : Nat} {cs : List Value} (h : Okv Try.prog w B n 114 cs) : ∃ s : ByteArray, s.size ≤ 9223372036854775807 ∧ cs[0]? = some (.string s) := by
  obtain ⟨hc, fs, hu, hsz, hty⟩ := fieldsGg
  obtain ⟨hl, m, hf⟩ := Okv.fields hu h
  have hj2 : fs[0]? = some (fs[0]'(by omega)) := Array.getElem?_eq_getElem _
  have q := hf 0 _ hj2
  have e := congrArg (fun a => a[0]?) hty
  simp only [Array.getElem?_map, hj2] at e
  simp at e
  obtain ⟨e1, e2, e3⟩ := e
  rw [e3, e2, e1] at q
  obtain ⟨z, hz, r⟩ := Okv.str Try.underlying9 q
  exact ⟨z, hz, one_of r⟩
theorem nameRd {w : World} {B n : Nat} {cs : List Value} (h : Okv Try.prog w B n 116 cs) : ∃ s : ByteArray, s.size ≤ 9223372036854775807 ∧ cs[0]? = some (.string s) := by
  obtain ⟨hc, fs, hu, hsz, hty⟩ := fieldsRd
  obtain ⟨hl, m, hf⟩ := Okv.fields hu h
  have hj2 : fs[0]? = some (fs[0]'(by omega)) := Array.getElem?_eq_getElem _
  have q := hf 0 _ hj2
  have e := congrArg (fun a => a[0]?) hty
  simp only [Array.getElem?_map, hj2] at e
  simp at e
  obtain ⟨e1, e2, e3⟩ := e
  rw [e3, e2, e1] at q
  obtain ⟨z, hz, r⟩ := Okv.str Try.underlying9 q
  exact ⟨z, hz, one_of r⟩
theorem nameSh {w : World} {B n : Nat} {cs : List Value} (h : Okv Try.prog w B n 112 cs) : ∃ s : ByteArray, s.size ≤ 9223372036854775807 ∧ cs[0]? = some (.string s) := by
  obtain ⟨hc, fs, hu, hsz, hty⟩ := fieldsSh
  obtain ⟨hl, m, hf⟩ := Okv.fields hu h
  have hj2 : fs[0]? = some (fs[0]'(by omega)) := Array.getElem?_eq_getElem _
  have q := hf 0 _ hj2
  have e := congrArg (fun a => a[0]?) hty
  simp only [Array.getElem?_map, hj2] at e
  simp at e
  obtain ⟨e1, e2, e3⟩ := e
  rw [e3, e2, e1] at q
  obtain ⟨z, hz, r⟩ := Okv.str Try.underlying9 q
  exact ⟨z, hz, one_of r⟩
theorem name_at {w : World} {B len K : Nat} {t : TypeId} {C : Option Addr} (hF : ∀ {n : Nat} {cs : List Value}, Okv Try.prog w B n t cs → ∃ s : ByteArray, s.size ≤ 9223372036854775807 ∧ cs[0]? = some (.string s)) (h : Sl w B t K C len) {i : Nat} (hi : i < len) : ∃ (b off : Nat) (s : ByteArray), C = some ⟨b, off, none⟩ ∧ b < B ∧ s.size ≤ 9223372036854775807 ∧ w.cell? ⟨b, off + i * K, none⟩ = some (.string s) := by
  obtain ⟨_, m, hm⟩ := h
  obtain ⟨b, off, e, hb, hc⟩ := hm (by omega)
  obtain ⟨F, h1, h2, h3⟩ := hc i hi
  obtain ⟨s, hs, g⟩ := hF h3
  exact ⟨b, off, s, e, hb, hs, by have := h2 0 _ g; simpa using this⟩
set_option maxRecDepth 100000 in
set_option maxHeartbeats 8000000 in
theorem named_any (X : Bas) (pl : CM.Pl) (w : World) (hX : BasOk w w.heap.size X pl) (hf3 : pl.length ≤ 8) (hf4 : X.l4 ≤ 4) (hf5 : X.l5 ≤ 4) (hf6 : X.l6 ≤ 6) (hf7 : X.l7 ≤ 128) (hf8 : X.l8 ≤ 40) : Calls Try.prog 30 #[.agg #[.string X.nm, .slice X.a1 X.l1 X.c1, .int .i64 X.cl, .slice X.P pl.length X.cP, .slice X.a4 X.l4 X.c4, .slice X.a5 X.l5 X.c5, .slice X.a6 X.l6 X.c6, .slice X.a7 X.l7 X.c7, .slice X.a8 X.l8 X.c8, .slice X.a9 X.l9 X.c9, .int .i64 X.er]] w (SomeB w) := by
  obtain ⟨i0, hi, hz0, hz1, hz2⟩ := info_parts2 infoStrs
  obtain ⟨i2, ri, rz0, rz1, rz2⟩ := info_parts2 infoStr
  have mk1 : ∀ wx : World, (Instr.makeSlice 104 (.int .i64 5) (.int .i64 5)).run Try.prog wx = .ok (.slice (some ⟨wx.heap.size, 0, none⟩) 5 5) (wx.alloc (.cells (zeros (.slice none 0 0) 5) 22)) := fun wx => run_make1 (P := Try.prog) 104 22 i0 (.slice none 0 0) Try.underlying104 hi hz0 hz1 rfl 5 5 (Nat.le_refl _) (by rw [hz2]; omega) (by omega) wx
  obtain ⟨nm, a1, l1, c1, cl, P, cP, a4, l4, c4, a5, l5, c5, a6, l6, c6, a7, l7, c7, a8, l8, c8, a9, l9, c9, er⟩ := X
  dsimp only at hf4 hf5 hf6 hf7 hf8 ⊢
  have HO := Lib.hid hX
  clear hX
  have hX : Box ((w.alloc (.cells (#[.string nm, .slice a1 l1 c1, .int .i64 cl, .slice P pl.length cP, .slice a4 l4 c4, .slice a5 l5 c5, .slice a6 l6 c6, .slice a7 l7 c7, .slice a8 l8 c8, .slice a9 l9 c9, .int .i64 er]) 31)).alloc (.cells (zeros (.slice none 0 0) 5) 22)) w.heap.size (#[.string nm, .slice a1 l1 c1, .int .i64 cl, .slice P pl.length cP, .slice a4 l4 c4, .slice a5 l5 c5, .slice a6 l6 c6, .slice a7 l7 c7, .slice a8 l8 c8, .slice a9 l9 c9, .int .i64 er]) 31 := (Box.new w _ _).keep (Below.heap_alloc _ _ _ (by simp))
  have hT : TabRows ((w.alloc (.cells (#[.string nm, .slice a1 l1 c1, .int .i64 cl, .slice P pl.length cP, .slice a4 l4 c4, .slice a5 l5 c5, .slice a6 l6 c6, .slice a7 l7 c7, .slice a8 l8 c8, .slice a9 l9 c9, .int .i64 er]) 31)).alloc (.cells (zeros (.slice none 0 0) 5) 22)) (w.heap.size + 2) (w.heap.size + 1) 5 encS 1 9 (fun _ => .slice none 0 0) (fun _ => []) := by
    have := TabRows.made (w.alloc (.cells (#[.string nm, .slice a1 l1 c1, .int .i64 cl, .slice P pl.length cP, .slice a4 l4 c4, .slice a5 l5 c5, .slice a6 l6 c6, .slice a7 l7 c7, .slice a8 l8 c8, .slice a9 l9 c9, .int .i64 er]) 31)) 5 encS 1 9 22
    simpa using this
  have hB : Below w.heap.size w ((w.alloc (.cells (#[.string nm, .slice a1 l1 c1, .int .i64 cl, .slice P pl.length cP, .slice a4 l4 c4, .slice a5 l5 c5, .slice a6 l6 c6, .slice a7 l7 c7, .slice a8 l8 c8, .slice a9 l9 c9, .int .i64 er]) 31)).alloc (.cells (zeros (.slice none 0 0) 5) 22)) := ((Below.refl _ _).alloc (Nat.le_refl _) _).alloc (by simp) _
  have hA : ∀ v, v < 5 → ((fun _ => []) v : List ByteArray).length ≤ 0 + 0 := fun v _ => Nat.le_refl _
  have hZ : ∀ v, v < 5 → ∀ s ∈ ((fun _ => []) v : List ByteArray), s.size ≤ 9223372036854775807 := fun v _ s h => by cases h
  have hX' := Lib.hid hX
  have hZ' := Lib.hid hZ
  have hT' := Lib.hid hT
  have hB' := Lib.hid hB
  have hA' := Lib.hid hA
  clear hX hT hB hA hZ
  go_enter Try.func30, Try.ntmps30
  go_wp2_with fail
  have hX := hX'.out
  have hT := hT'.out
  have hB := hB'.out
  have hA := hA'.out
  have hZ := hZ'.out
  clear hX' hT' hB' hA' hZ' mk1
  go_loopw [4] (fun kv wr => ∃ (k : Nat) (V : Nat → Value) (A : Nat → List ByteArray), k ≤ pl.length ∧ kv = .int .i64 k ∧ TabRows wr (w.heap.size + 2) (w.heap.size + 1) 5 encS 1 9 V A ∧ (∀ v, v < 5 → (A v).length ≤ 0 + k) ∧ (∀ v, v < 5 → ∀ s ∈ A v, s.size ≤ 9223372036854775807) ∧ Box wr w.heap.size (#[.string nm, .slice a1 l1 c1, .int .i64 cl, .slice P pl.length cP, .slice a4 l4 c4, .slice a5 l5 c5, .slice a6 l6 c6, .slice a7 l7 c7, .slice a8 l8 c8, .slice a9 l9 c9, .int .i64 er]) 31 ∧ Below w.heap.size w wr) (fun kv _ => pl.length - (intOf kv).toNat)
  case atStart => exact ⟨0, _, _, Nat.zero_le _, rfl, hT, hA, hZ, hX, hB⟩
  case round =>
    clear hT hA hZ hX hB
    obtain ⟨k, V, A, hk, rfl, hT, hA, hZ, hX, hB⟩ := hrel
    have hwz := hX.lt
    have hgz := hT.lt
    by_cases hlt : k < pl.length
    · obtain ⟨b, off, s, ec, hbb, hss, q0⟩ := name_at namePv (HO.out.below hB).pla hlt
      dsimp only at ec
      have x3 : wr.cell? ⟨w.heap.size, 3, none⟩ = some (.slice P pl.length cP) := hX.cell rfl
      rw [ec] at x3
      have Hec := Lib.hid ec
      clear ec
      have hbw : b < wr.heap.size := by have := hB.size; omega
      obtain ⟨t1, t2⟩ := hT.arr 0 (by omega)
      have hrow := hT.row 0 (by omega)
      obtain ⟨o, cc, hVi, _⟩ := ad_of_owns hrow
      rw [hVi] at t1 hrow
      have ho := fun g (e : o = some g) => hrow.lt g (by rw [ad_block]; exact e)
      have n0 : some (w.heap.size + 1) ≠ o := fun e => by have := ho _ e.symm; omega
      have n1 : some w.heap.size ≠ o := fun e => by have := ho _ e.symm; omega
      have n2 : some b ≠ o := fun e => by have := ho _ e.symm; omega
      have hAl := hA 0 (by omega)
      obtain ⟨L, hL⟩ : ∃ L, L = A 0 := ⟨_, rfl⟩
      rw [← hL] at hrow t1 hAl
      have HL := Lib.hid hL
      have HVi := Lib.hid hVi
      have Hrow := Lib.hid hrow
      have HT := Lib.hid hT
      have HA := Lib.hid hA
      have HX := Lib.hid hX
      have HB := Lib.hid hB
      have HZ := Lib.hid hZ
      clear hL hVi hrow hT hA hX hB ho hZ
      go_wp2_with fail
      refine Plan.wp_region_plan (fun wx => wr.grownBy wx o) 13 [(0, true), (1, true), (2, true), (3, true), (4, true), (5, true), (6, true), (7, true), (8, true), (9, true), (10, false), (11, false), (12, true), (13, false)] (by kernel_rfl) (by kernel_rfl) (Plan.grown_drew _ _) ?_
      (repeat (first | (refine Plan.plan_read (v := ?_) rfl rfl ?_ ?_; rotate_left; (focus ((intro wS hSw; have hkS := Plan.grown_cells hSw; go_simp); try with_reducible rfl)); simp only [Act.put, List.setIfInBounds_toArray, List.set_cons_zero, List.set_cons_succ]) | (refine Plan.plan_skip rfl rfl ?_; simp only [Act.put, List.setIfInBounds_toArray, List.set_cons_zero, List.set_cons_succ])))
      (refine Plan.plan_write rfl (fun K hK => ?_); try go_simp)
      refine hK.out _ _ (Plan.grown_alloc (Plan.grown_drew _ _) _) ?_
      clear hK K
      try simp only [Act.put, List.setIfInBounds_toArray, List.set_cons_zero, List.set_cons_succ]
      refine Plan.plan_write rfl (fun K hK => ?_)
      refine step_append_any _ (by rfl) _ _ 22 (by rfl) (w.heap.size + 2) 9 i2 _ 1 16 Try.underlying22 ri rz0 rz1 rz2 rfl (by omega) _ L.length _ (by rfl) ((Hrow.out.alloc _).drew) (_ + 1) (some ⟨wr.heap.size, 0, none⟩) 1 1 [.string s] (by rfl) ⟨rfl, fun _ => ⟨_, rfl, Nat.lt_succ_self _, cells_at (by rfl) _ _⟩⟩ (fun u hu => by obtain rfl := List.mem_singleton.1 hu; rfl) (by unfold maxLen; omega) (by omega) (by simp; omega) ?_
      intro v' w3 hO3 hG3 hob3
      obtain ⟨o3, c3, hv3, _⟩ := ad_of_owns hO3
      subst hv3
      rw [ad_block, ad_block] at hob3
      rw [ad_block] at hG3
      have hG := Plan.grown_go (Plan.grown_alloc (Plan.grown_drew _ _) _) hG3
      refine hK.out _ _ hG ?_
      clear hK K
      try simp only [Act.put, List.setIfInBounds_toArray, List.set_cons_zero, List.set_cons_succ]
      have z0 := (Plan.grown_cells hG (w.heap.size + 1) 0 hgz n0).trans t1
      have z1 := (World.frozen?_of_block (a := ⟨(w.heap.size + 1), 0, none⟩) (hG.block (w.heap.size + 1) hgz n0)).trans t2
      replace hO3 := Lib.hid hO3
      (repeat (first | (refine Plan.plan_read (v := ?_) rfl rfl ?_ ?_; rotate_left; (focus ((intro wS hSw; have hkS := Plan.grown_cells hSw; go_simp); try with_reducible rfl)); simp only [Act.put, List.setIfInBounds_toArray, List.set_cons_zero, List.set_cons_succ]) | (refine Plan.plan_skip rfl rfl ?_; simp only [Act.put, List.setIfInBounds_toArray, List.set_cons_zero, List.set_cons_succ])))
      (refine Plan.plan_last rfl (fun K hK => ?_); go_simp; refine hK.out _ _ ?_; clear hK K; try simp only [Act.put, List.setIfInBounds_toArray, List.set_cons_zero, List.set_cons_succ])
      go_wp2_with fail
      have hT3 := HT.out.store (x := 0) (v' := .slice (ad o3) (L.length + 1) c3) (L' := L ++ [s]) (by omega) (by rw [HVi.out, ad_block]; exact hG) (by rw [List.length_append, List.length_singleton, List.flatMap_append, List.flatMap_cons, List.flatMap_nil, List.append_nil]; exact hO3.out) (fun q e => by
        rw [HVi.out, ad_block]
        rw [ad_block] at e
        rcases hob3 with h | h
        · exact .inl (h.symm.trans e)
        · rw [e] at h; have h := Option.some.inj h; right; rw [h]; simp)
      go_roundw
      case rel =>
        refine ⟨k + 1, _, _, by omega, by go_num, hT3, fun v hv => ?_, fun v hv => ?_, (HX.out.keep (hG.block _ (by omega) n1)).keep (Below.heap_setCell _ _ _ _ (show w.heap.size ≠ w.heap.size + 1 by omega)), (HB.out.grown hG (by omega) (fun q e => by have := (Hrow.out.lt q (by rw [ad_block]; exact e)).1; omega)).setCell (p := ⟨(w.heap.size + 1), 0, none⟩) (by show w.heap.size ≤ w.heap.size + 1; omega) _⟩
        · have := HA.out v hv
          have := hAl
          show (if v = 0 then L ++ [s] else A v).length ≤ 0 + (k + 1)
          split
          · rw [List.length_append, List.length_singleton]; omega
          · omega
        · show ∀ x ∈ (if v = 0 then L ++ [s] else A v), x.size ≤ 9223372036854775807
          split
          · intro x hx
            rcases List.mem_append.1 hx with h | h
            · exact HZ.out 0 (by omega) x (by rw [← HL.out]; exact h)
            · rw [List.mem_singleton.1 h]; exact hss
          · exact HZ.out v hv
      case measure => simp [intOf]; omega
    · obtain rfl : pl.length = k := by omega
      clear hlt hk
      have x3 : wr.cell? ⟨w.heap.size, 3, none⟩ = some (.slice P pl.length cP) := hX.cell rfl
      go_wp2_with fail
      have hA2 : ∀ v, v < 5 → (A v).length ≤ 8 + 0 := fun v hv => by have := hA v hv; omega
      have hA := hA2
      clear hA2
      go_loopw [5] (fun kv wr => ∃ (k : Nat) (V : Nat → Value) (A : Nat → List ByteArray), k ≤ l4 ∧ kv = .int .i64 k ∧ TabRows wr (w.heap.size + 2) (w.heap.size + 1) 5 encS 1 9 V A ∧ (∀ v, v < 5 → (A v).length ≤ 8 + k) ∧ (∀ v, v < 5 → ∀ s ∈ A v, s.size ≤ 9223372036854775807) ∧ Box wr w.heap.size (#[.string nm, .slice a1 l1 c1, .int .i64 cl, .slice P pl.length cP, .slice a4 l4 c4, .slice a5 l5 c5, .slice a6 l6 c6, .slice a7 l7 c7, .slice a8 l8 c8, .slice a9 l9 c9, .int .i64 er]) 31 ∧ Below w.heap.size w wr) (fun kv _ => l4 - (intOf kv).toNat)
      case atStart => exact ⟨0, _, _, Nat.zero_le _, rfl, hT, hA, hZ, hX, hB⟩
      case round =>
        clear hT hA hZ hX hB
        obtain ⟨k, V, A, hk, rfl, hT, hA, hZ, hX, hB⟩ := hrel
        have hwz := hX.lt
        have hgz := hT.lt
        by_cases hlt : k < l4
        · obtain ⟨b, off, s, ec, hbb, hss, q0⟩ := name_at nameLk (HO.out.below hB).lnk hlt
          dsimp only at ec
          have x4 : wr.cell? ⟨w.heap.size, 4, none⟩ = some (.slice a4 l4 c4) := hX.cell rfl
          rw [ec] at x4
          have Hec := Lib.hid ec
          clear ec
          have hbw : b < wr.heap.size := by have := hB.size; omega
          obtain ⟨t1, t2⟩ := hT.arr 1 (by omega)
          have hrow := hT.row 1 (by omega)
          obtain ⟨o, cc, hVi, _⟩ := ad_of_owns hrow
          rw [hVi] at t1 hrow
          have ho := fun g (e : o = some g) => hrow.lt g (by rw [ad_block]; exact e)
          have n0 : some (w.heap.size + 1) ≠ o := fun e => by have := ho _ e.symm; omega
          have n1 : some w.heap.size ≠ o := fun e => by have := ho _ e.symm; omega
          have n2 : some b ≠ o := fun e => by have := ho _ e.symm; omega
          have hAl := hA 1 (by omega)
          obtain ⟨L, hL⟩ : ∃ L, L = A 1 := ⟨_, rfl⟩
          rw [← hL] at hrow t1 hAl
          have HL := Lib.hid hL
          have HVi := Lib.hid hVi
          have Hrow := Lib.hid hrow
          have HT := Lib.hid hT
          have HA := Lib.hid hA
          have HX := Lib.hid hX
          have HB := Lib.hid hB
          have HZ := Lib.hid hZ
          clear hL hVi hrow hT hA hX hB ho hZ
          go_wp2_with fail
          refine Plan.wp_region_plan (fun wx => wr.grownBy wx o) 13 [(0, true), (1, true), (2, true), (3, true), (4, true), (5, true), (6, true), (7, true), (8, true), (9, true), (10, false), (11, false), (12, true), (13, false)] (by kernel_rfl) (by kernel_rfl) (Plan.grown_drew _ _) ?_
          (repeat (first | (refine Plan.plan_read (v := ?_) rfl rfl ?_ ?_; rotate_left; (focus ((intro wS hSw; have hkS := Plan.grown_cells hSw; go_simp); try with_reducible rfl)); simp only [Act.put, List.setIfInBounds_toArray, List.set_cons_zero, List.set_cons_succ]) | (refine Plan.plan_skip rfl rfl ?_; simp only [Act.put, List.setIfInBounds_toArray, List.set_cons_zero, List.set_cons_succ])))
          (refine Plan.plan_write rfl (fun K hK => ?_); try go_simp)
          refine hK.out _ _ (Plan.grown_alloc (Plan.grown_drew _ _) _) ?_
          clear hK K
          try simp only [Act.put, List.setIfInBounds_toArray, List.set_cons_zero, List.set_cons_succ]
          refine Plan.plan_write rfl (fun K hK => ?_)
          refine step_append_any _ (by rfl) _ _ 22 (by rfl) (w.heap.size + 2) 9 i2 _ 1 16 Try.underlying22 ri rz0 rz1 rz2 rfl (by omega) _ L.length _ (by rfl) ((Hrow.out.alloc _).drew) (_ + 1) (some ⟨wr.heap.size, 0, none⟩) 1 1 [.string s] (by rfl) ⟨rfl, fun _ => ⟨_, rfl, Nat.lt_succ_self _, cells_at (by rfl) _ _⟩⟩ (fun u hu => by obtain rfl := List.mem_singleton.1 hu; rfl) (by unfold maxLen; omega) (by omega) (by simp; omega) ?_
          intro v' w3 hO3 hG3 hob3
          obtain ⟨o3, c3, hv3, _⟩ := ad_of_owns hO3
          subst hv3
          rw [ad_block, ad_block] at hob3
          rw [ad_block] at hG3
          have hG := Plan.grown_go (Plan.grown_alloc (Plan.grown_drew _ _) _) hG3
          refine hK.out _ _ hG ?_
          clear hK K
          try simp only [Act.put, List.setIfInBounds_toArray, List.set_cons_zero, List.set_cons_succ]
          have z0 := (Plan.grown_cells hG (w.heap.size + 1) 1 hgz n0).trans t1
          have z1 := (World.frozen?_of_block (a := ⟨(w.heap.size + 1), 1, none⟩) (hG.block (w.heap.size + 1) hgz n0)).trans t2
          replace hO3 := Lib.hid hO3
          (repeat (first | (refine Plan.plan_read (v := ?_) rfl rfl ?_ ?_; rotate_left; (focus ((intro wS hSw; have hkS := Plan.grown_cells hSw; go_simp); try with_reducible rfl)); simp only [Act.put, List.setIfInBounds_toArray, List.set_cons_zero, List.set_cons_succ]) | (refine Plan.plan_skip rfl rfl ?_; simp only [Act.put, List.setIfInBounds_toArray, List.set_cons_zero, List.set_cons_succ])))
          (refine Plan.plan_last rfl (fun K hK => ?_); go_simp; refine hK.out _ _ ?_; clear hK K; try simp only [Act.put, List.setIfInBounds_toArray, List.set_cons_zero, List.set_cons_succ])
          go_wp2_with fail
          have hT3 := HT.out.store (x := 1) (v' := .slice (ad o3) (L.length + 1) c3) (L' := L ++ [s]) (by omega) (by rw [HVi.out, ad_block]; exact hG) (by rw [List.length_append, List.length_singleton, List.flatMap_append, List.flatMap_cons, List.flatMap_nil, List.append_nil]; exact hO3.out) (fun q e => by
            rw [HVi.out, ad_block]
            rw [ad_block] at e
            rcases hob3 with h | h
            · exact .inl (h.symm.trans e)
            · rw [e] at h; have h := Option.some.inj h; right; rw [h]; simp)
          go_roundw
          case rel =>
            refine ⟨k + 1, _, _, by omega, by go_num, hT3, fun v hv => ?_, fun v hv => ?_, (HX.out.keep (hG.block _ (by omega) n1)).keep (Below.heap_setCell _ _ _ _ (show w.heap.size ≠ w.heap.size + 1 by omega)), (HB.out.grown hG (by omega) (fun q e => by have := (Hrow.out.lt q (by rw [ad_block]; exact e)).1; omega)).setCell (p := ⟨(w.heap.size + 1), 1, none⟩) (by show w.heap.size ≤ w.heap.size + 1; omega) _⟩
            · have := HA.out v hv
              have := hAl
              show (if v = 1 then L ++ [s] else A v).length ≤ 8 + (k + 1)
              split
              · rw [List.length_append, List.length_singleton]; omega
              · omega
            · show ∀ x ∈ (if v = 1 then L ++ [s] else A v), x.size ≤ 9223372036854775807
              split
              · intro x hx
                rcases List.mem_append.1 hx with h | h
                · exact HZ.out 1 (by omega) x (by rw [← HL.out]; exact h)
                · rw [List.mem_singleton.1 h]; exact hss
              · exact HZ.out v hv
          case measure => simp [intOf]; omega
        · obtain rfl : l4 = k := by omega
          clear hlt hk
          have x4 : wr.cell? ⟨w.heap.size, 4, none⟩ = some (.slice a4 l4 c4) := hX.cell rfl
          go_wp2_with fail
          have hA2 : ∀ v, v < 5 → (A v).length ≤ 12 + 0 := fun v hv => by have := hA v hv; omega
          have hA := hA2
          clear hA2
          go_loopw [6] (fun kv wr => ∃ (k : Nat) (V : Nat → Value) (A : Nat → List ByteArray), k ≤ l5 ∧ kv = .int .i64 k ∧ TabRows wr (w.heap.size + 2) (w.heap.size + 1) 5 encS 1 9 V A ∧ (∀ v, v < 5 → (A v).length ≤ 12 + k) ∧ (∀ v, v < 5 → ∀ s ∈ A v, s.size ≤ 9223372036854775807) ∧ Box wr w.heap.size (#[.string nm, .slice a1 l1 c1, .int .i64 cl, .slice P pl.length cP, .slice a4 l4 c4, .slice a5 l5 c5, .slice a6 l6 c6, .slice a7 l7 c7, .slice a8 l8 c8, .slice a9 l9 c9, .int .i64 er]) 31 ∧ Below w.heap.size w wr) (fun kv _ => l5 - (intOf kv).toNat)
          case atStart => exact ⟨0, _, _, Nat.zero_le _, rfl, hT, hA, hZ, hX, hB⟩
          case round =>
            clear hT hA hZ hX hB
            obtain ⟨k, V, A, hk, rfl, hT, hA, hZ, hX, hB⟩ := hrel
            have hwz := hX.lt
            have hgz := hT.lt
            by_cases hlt : k < l5
            · obtain ⟨b, off, s, ec, hbb, hss, q0⟩ := name_at nameTn (HO.out.below hB).twn hlt
              dsimp only at ec
              have x5 : wr.cell? ⟨w.heap.size, 5, none⟩ = some (.slice a5 l5 c5) := hX.cell rfl
              rw [ec] at x5
              have Hec := Lib.hid ec
              clear ec
              have hbw : b < wr.heap.size := by have := hB.size; omega
              obtain ⟨t1, t2⟩ := hT.arr 2 (by omega)
              have hrow := hT.row 2 (by omega)
              obtain ⟨o, cc, hVi, _⟩ := ad_of_owns hrow
              rw [hVi] at t1 hrow
              have ho := fun g (e : o = some g) => hrow.lt g (by rw [ad_block]; exact e)
              have n0 : some (w.heap.size + 1) ≠ o := fun e => by have := ho _ e.symm; omega
              have n1 : some w.heap.size ≠ o := fun e => by have := ho _ e.symm; omega
              have n2 : some b ≠ o := fun e => by have := ho _ e.symm; omega
              have hAl := hA 2 (by omega)
              obtain ⟨L, hL⟩ : ∃ L, L = A 2 := ⟨_, rfl⟩
              rw [← hL] at hrow t1 hAl
              have HL := Lib.hid hL
              have HVi := Lib.hid hVi
              have Hrow := Lib.hid hrow
              have HT := Lib.hid hT
              have HA := Lib.hid hA
              have HX := Lib.hid hX
              have HB := Lib.hid hB
              have HZ := Lib.hid hZ
              clear hL hVi hrow hT hA hX hB ho hZ
              go_wp2_with fail
              refine Plan.wp_region_plan (fun wx => wr.grownBy wx o) 13 [(0, true), (1, true), (2, true), (3, true), (4, true), (5, true), (6, true), (7, true), (8, true), (9, true), (10, false), (11, false), (12, true), (13, false)] (by kernel_rfl) (by kernel_rfl) (Plan.grown_drew _ _) ?_
              (repeat (first | (refine Plan.plan_read (v := ?_) rfl rfl ?_ ?_; rotate_left; (focus ((intro wS hSw; have hkS := Plan.grown_cells hSw; go_simp); try with_reducible rfl)); simp only [Act.put, List.setIfInBounds_toArray, List.set_cons_zero, List.set_cons_succ]) | (refine Plan.plan_skip rfl rfl ?_; simp only [Act.put, List.setIfInBounds_toArray, List.set_cons_zero, List.set_cons_succ])))
              (refine Plan.plan_write rfl (fun K hK => ?_); try go_simp)
              refine hK.out _ _ (Plan.grown_alloc (Plan.grown_drew _ _) _) ?_
              clear hK K
              try simp only [Act.put, List.setIfInBounds_toArray, List.set_cons_zero, List.set_cons_succ]
              refine Plan.plan_write rfl (fun K hK => ?_)
              refine step_append_any _ (by rfl) _ _ 22 (by rfl) (w.heap.size + 2) 9 i2 _ 1 16 Try.underlying22 ri rz0 rz1 rz2 rfl (by omega) _ L.length _ (by rfl) ((Hrow.out.alloc _).drew) (_ + 1) (some ⟨wr.heap.size, 0, none⟩) 1 1 [.string s] (by rfl) ⟨rfl, fun _ => ⟨_, rfl, Nat.lt_succ_self _, cells_at (by rfl) _ _⟩⟩ (fun u hu => by obtain rfl := List.mem_singleton.1 hu; rfl) (by unfold maxLen; omega) (by omega) (by simp; omega) ?_
              intro v' w3 hO3 hG3 hob3
              obtain ⟨o3, c3, hv3, _⟩ := ad_of_owns hO3
              subst hv3
              rw [ad_block, ad_block] at hob3
              rw [ad_block] at hG3
              have hG := Plan.grown_go (Plan.grown_alloc (Plan.grown_drew _ _) _) hG3
              refine hK.out _ _ hG ?_
              clear hK K
              try simp only [Act.put, List.setIfInBounds_toArray, List.set_cons_zero, List.set_cons_succ]
              have z0 := (Plan.grown_cells hG (w.heap.size + 1) 2 hgz n0).trans t1
              have z1 := (World.frozen?_of_block (a := ⟨(w.heap.size + 1), 2, none⟩) (hG.block (w.heap.size + 1) hgz n0)).trans t2
              replace hO3 := Lib.hid hO3
              (repeat (first | (refine Plan.plan_read (v := ?_) rfl rfl ?_ ?_; rotate_left; (focus ((intro wS hSw; have hkS := Plan.grown_cells hSw; go_simp); try with_reducible rfl)); simp only [Act.put, List.setIfInBounds_toArray, List.set_cons_zero, List.set_cons_succ]) | (refine Plan.plan_skip rfl rfl ?_; simp only [Act.put, List.setIfInBounds_toArray, List.set_cons_zero, List.set_cons_succ])))
              (refine Plan.plan_last rfl (fun K hK => ?_); go_simp; refine hK.out _ _ ?_; clear hK K; try simp only [Act.put, List.setIfInBounds_toArray, List.set_cons_zero, List.set_cons_succ])
              go_wp2_with fail
              have hT3 := HT.out.store (x := 2) (v' := .slice (ad o3) (L.length + 1) c3) (L' := L ++ [s]) (by omega) (by rw [HVi.out, ad_block]; exact hG) (by rw [List.length_append, List.length_singleton, List.flatMap_append, List.flatMap_cons, List.flatMap_nil, List.append_nil]; exact hO3.out) (fun q e => by
                rw [HVi.out, ad_block]
                rw [ad_block] at e
                rcases hob3 with h | h
                · exact .inl (h.symm.trans e)
                · rw [e] at h; have h := Option.some.inj h; right; rw [h]; simp)
              go_roundw
              case rel =>
                refine ⟨k + 1, _, _, by omega, by go_num, hT3, fun v hv => ?_, fun v hv => ?_, (HX.out.keep (hG.block _ (by omega) n1)).keep (Below.heap_setCell _ _ _ _ (show w.heap.size ≠ w.heap.size + 1 by omega)), (HB.out.grown hG (by omega) (fun q e => by have := (Hrow.out.lt q (by rw [ad_block]; exact e)).1; omega)).setCell (p := ⟨(w.heap.size + 1), 2, none⟩) (by show w.heap.size ≤ w.heap.size + 1; omega) _⟩
                · have := HA.out v hv
                  have := hAl
                  show (if v = 2 then L ++ [s] else A v).length ≤ 12 + (k + 1)
                  split
                  · rw [List.length_append, List.length_singleton]; omega
                  · omega
                · show ∀ x ∈ (if v = 2 then L ++ [s] else A v), x.size ≤ 9223372036854775807
                  split
                  · intro x hx
                    rcases List.mem_append.1 hx with h | h
                    · exact HZ.out 2 (by omega) x (by rw [← HL.out]; exact h)
                    · rw [List.mem_singleton.1 h]; exact hss
                  · exact HZ.out v hv
              case measure => simp [intOf]; omega
            · obtain rfl : l5 = k := by omega
              clear hlt hk
              have x5 : wr.cell? ⟨w.heap.size, 5, none⟩ = some (.slice a5 l5 c5) := hX.cell rfl
              go_wp2_with fail
              have hA2 : ∀ v, v < 5 → (A v).length ≤ 16 + 0 := fun v hv => by have := hA v hv; omega
              have hA := hA2
              clear hA2
              go_loopw [7] (fun kv wr => ∃ (k : Nat) (V : Nat → Value) (A : Nat → List ByteArray), k ≤ l8 ∧ kv = .int .i64 k ∧ TabRows wr (w.heap.size + 2) (w.heap.size + 1) 5 encS 1 9 V A ∧ (∀ v, v < 5 → (A v).length ≤ 16 + k) ∧ (∀ v, v < 5 → ∀ s ∈ A v, s.size ≤ 9223372036854775807) ∧ Box wr w.heap.size (#[.string nm, .slice a1 l1 c1, .int .i64 cl, .slice P pl.length cP, .slice a4 l4 c4, .slice a5 l5 c5, .slice a6 l6 c6, .slice a7 l7 c7, .slice a8 l8 c8, .slice a9 l9 c9, .int .i64 er]) 31 ∧ Below w.heap.size w wr) (fun kv _ => l8 - (intOf kv).toNat)
              case atStart => exact ⟨0, _, _, Nat.zero_le _, rfl, hT, hA, hZ, hX, hB⟩
              case round =>
                clear hT hA hZ hX hB
                obtain ⟨k, V, A, hk, rfl, hT, hA, hZ, hX, hB⟩ := hrel
                have hwz := hX.lt
                have hgz := hT.lt
                by_cases hlt : k < l8
                · obtain ⟨b, off, s, ec, hbb, hss, q0⟩ := name_at nameSh (HO.out.below hB).she hlt
                  dsimp only at ec
                  have x8 : wr.cell? ⟨w.heap.size, 8, none⟩ = some (.slice a8 l8 c8) := hX.cell rfl
                  rw [ec] at x8
                  have Hec := Lib.hid ec
                  clear ec
                  have hbw : b < wr.heap.size := by have := hB.size; omega
                  obtain ⟨t1, t2⟩ := hT.arr 2 (by omega)
                  have hrow := hT.row 2 (by omega)
                  obtain ⟨o, cc, hVi, _⟩ := ad_of_owns hrow
                  rw [hVi] at t1 hrow
                  have ho := fun g (e : o = some g) => hrow.lt g (by rw [ad_block]; exact e)
                  have n0 : some (w.heap.size + 1) ≠ o := fun e => by have := ho _ e.symm; omega
                  have n1 : some w.heap.size ≠ o := fun e => by have := ho _ e.symm; omega
                  have n2 : some b ≠ o := fun e => by have := ho _ e.symm; omega
                  have hAl := hA 2 (by omega)
                  obtain ⟨L, hL⟩ : ∃ L, L = A 2 := ⟨_, rfl⟩
                  rw [← hL] at hrow t1 hAl
                  have HL := Lib.hid hL
                  have HVi := Lib.hid hVi
                  have Hrow := Lib.hid hrow
                  have HT := Lib.hid hT
                  have HA := Lib.hid hA
                  have HX := Lib.hid hX
                  have HB := Lib.hid hB
                  have HZ := Lib.hid hZ
                  clear hL hVi hrow hT hA hX hB ho hZ
                  go_wp2_with fail
                  refine Plan.wp_region_plan (fun wx => wr.grownBy wx o) 13 [(0, true), (1, true), (2, true), (3, true), (4, true), (5, true), (6, true), (7, true), (8, true), (9, true), (10, false), (11, false), (12, true), (13, false)] (by kernel_rfl) (by kernel_rfl) (Plan.grown_drew _ _) ?_
                  (repeat (first | (refine Plan.plan_read (v := ?_) rfl rfl ?_ ?_; rotate_left; (focus ((intro wS hSw; have hkS := Plan.grown_cells hSw; go_simp); try with_reducible rfl)); simp only [Act.put, List.setIfInBounds_toArray, List.set_cons_zero, List.set_cons_succ]) | (refine Plan.plan_skip rfl rfl ?_; simp only [Act.put, List.setIfInBounds_toArray, List.set_cons_zero, List.set_cons_succ])))
                  (refine Plan.plan_write rfl (fun K hK => ?_); try go_simp)
                  refine hK.out _ _ (Plan.grown_alloc (Plan.grown_drew _ _) _) ?_
                  clear hK K
                  try simp only [Act.put, List.setIfInBounds_toArray, List.set_cons_zero, List.set_cons_succ]
                  refine Plan.plan_write rfl (fun K hK => ?_)
                  refine step_append_any _ (by rfl) _ _ 22 (by rfl) (w.heap.size + 2) 9 i2 _ 1 16 Try.underlying22 ri rz0 rz1 rz2 rfl (by omega) _ L.length _ (by rfl) ((Hrow.out.alloc _).drew) (_ + 1) (some ⟨wr.heap.size, 0, none⟩) 1 1 [.string s] (by rfl) ⟨rfl, fun _ => ⟨_, rfl, Nat.lt_succ_self _, cells_at (by rfl) _ _⟩⟩ (fun u hu => by obtain rfl := List.mem_singleton.1 hu; rfl) (by unfold maxLen; omega) (by omega) (by simp; omega) ?_
                  intro v' w3 hO3 hG3 hob3
                  obtain ⟨o3, c3, hv3, _⟩ := ad_of_owns hO3
                  subst hv3
                  rw [ad_block, ad_block] at hob3
                  rw [ad_block] at hG3
                  have hG := Plan.grown_go (Plan.grown_alloc (Plan.grown_drew _ _) _) hG3
                  refine hK.out _ _ hG ?_
                  clear hK K
                  try simp only [Act.put, List.setIfInBounds_toArray, List.set_cons_zero, List.set_cons_succ]
                  have z0 := (Plan.grown_cells hG (w.heap.size + 1) 2 hgz n0).trans t1
                  have z1 := (World.frozen?_of_block (a := ⟨(w.heap.size + 1), 2, none⟩) (hG.block (w.heap.size + 1) hgz n0)).trans t2
                  replace hO3 := Lib.hid hO3
                  (repeat (first | (refine Plan.plan_read (v := ?_) rfl rfl ?_ ?_; rotate_left; (focus ((intro wS hSw; have hkS := Plan.grown_cells hSw; go_simp); try with_reducible rfl)); simp only [Act.put, List.setIfInBounds_toArray, List.set_cons_zero, List.set_cons_succ]) | (refine Plan.plan_skip rfl rfl ?_; simp only [Act.put, List.setIfInBounds_toArray, List.set_cons_zero, List.set_cons_succ])))
                  (refine Plan.plan_last rfl (fun K hK => ?_); go_simp; refine hK.out _ _ ?_; clear hK K; try simp only [Act.put, List.setIfInBounds_toArray, List.set_cons_zero, List.set_cons_succ])
                  go_wp2_with fail
                  have hT3 := HT.out.store (x := 2) (v' := .slice (ad o3) (L.length + 1) c3) (L' := L ++ [s]) (by omega) (by rw [HVi.out, ad_block]; exact hG) (by rw [List.length_append, List.length_singleton, List.flatMap_append, List.flatMap_cons, List.flatMap_nil, List.append_nil]; exact hO3.out) (fun q e => by
                    rw [HVi.out, ad_block]
                    rw [ad_block] at e
                    rcases hob3 with h | h
                    · exact .inl (h.symm.trans e)
                    · rw [e] at h; have h := Option.some.inj h; right; rw [h]; simp)
                  go_roundw
                  case rel =>
                    refine ⟨k + 1, _, _, by omega, by go_num, hT3, fun v hv => ?_, fun v hv => ?_, (HX.out.keep (hG.block _ (by omega) n1)).keep (Below.heap_setCell _ _ _ _ (show w.heap.size ≠ w.heap.size + 1 by omega)), (HB.out.grown hG (by omega) (fun q e => by have := (Hrow.out.lt q (by rw [ad_block]; exact e)).1; omega)).setCell (p := ⟨(w.heap.size + 1), 2, none⟩) (by show w.heap.size ≤ w.heap.size + 1; omega) _⟩
                    · have := HA.out v hv
                      have := hAl
                      show (if v = 2 then L ++ [s] else A v).length ≤ 16 + (k + 1)
                      split
                      · rw [List.length_append, List.length_singleton]; omega
                      · omega
                    · show ∀ x ∈ (if v = 2 then L ++ [s] else A v), x.size ≤ 9223372036854775807
                      split
                      · intro x hx
                        rcases List.mem_append.1 hx with h | h
                        · exact HZ.out 2 (by omega) x (by rw [← HL.out]; exact h)
                        · rw [List.mem_singleton.1 h]; exact hss
                      · exact HZ.out v hv
                  case measure => simp [intOf]; omega
                · obtain rfl : l8 = k := by omega
                  clear hlt hk
                  have x8 : wr.cell? ⟨w.heap.size, 8, none⟩ = some (.slice a8 l8 c8) := hX.cell rfl
                  go_wp2_with fail
                  have hA2 : ∀ v, v < 5 → (A v).length ≤ 56 + 0 := fun v hv => by have := hA v hv; omega
                  have hA := hA2
                  clear hA2
                  go_loopw [8] (fun kv wr => ∃ (k : Nat) (V : Nat → Value) (A : Nat → List ByteArray), k ≤ l6 ∧ kv = .int .i64 k ∧ TabRows wr (w.heap.size + 2) (w.heap.size + 1) 5 encS 1 9 V A ∧ (∀ v, v < 5 → (A v).length ≤ 56 + k) ∧ (∀ v, v < 5 → ∀ s ∈ A v, s.size ≤ 9223372036854775807) ∧ Box wr w.heap.size (#[.string nm, .slice a1 l1 c1, .int .i64 cl, .slice P pl.length cP, .slice a4 l4 c4, .slice a5 l5 c5, .slice a6 l6 c6, .slice a7 l7 c7, .slice a8 l8 c8, .slice a9 l9 c9, .int .i64 er]) 31 ∧ Below w.heap.size w wr) (fun kv _ => l6 - (intOf kv).toNat)
                  case atStart => exact ⟨0, _, _, Nat.zero_le _, rfl, hT, hA, hZ, hX, hB⟩
                  case round =>
                    clear hT hA hZ hX hB
                    obtain ⟨k, V, A, hk, rfl, hT, hA, hZ, hX, hB⟩ := hrel
                    have hwz := hX.lt
                    have hgz := hT.lt
                    by_cases hlt : k < l6
                    · obtain ⟨b, off, s, ec, hbb, hss, q0⟩ := name_at nameGg (HO.out.below hB).gau hlt
                      dsimp only at ec
                      have x6 : wr.cell? ⟨w.heap.size, 6, none⟩ = some (.slice a6 l6 c6) := hX.cell rfl
                      rw [ec] at x6
                      have Hec := Lib.hid ec
                      clear ec
                      have hbw : b < wr.heap.size := by have := hB.size; omega
                      obtain ⟨t1, t2⟩ := hT.arr 3 (by omega)
                      have hrow := hT.row 3 (by omega)
                      obtain ⟨o, cc, hVi, _⟩ := ad_of_owns hrow
                      rw [hVi] at t1 hrow
                      have ho := fun g (e : o = some g) => hrow.lt g (by rw [ad_block]; exact e)
                      have n0 : some (w.heap.size + 1) ≠ o := fun e => by have := ho _ e.symm; omega
                      have n1 : some w.heap.size ≠ o := fun e => by have := ho _ e.symm; omega
                      have n2 : some b ≠ o := fun e => by have := ho _ e.symm; omega
                      have hAl := hA 3 (by omega)
                      obtain ⟨L, hL⟩ : ∃ L, L = A 3 := ⟨_, rfl⟩
                      rw [← hL] at hrow t1 hAl
                      have HL := Lib.hid hL
                      have HVi := Lib.hid hVi
                      have Hrow := Lib.hid hrow
                      have HT := Lib.hid hT
                      have HA := Lib.hid hA
                      have HX := Lib.hid hX
                      have HB := Lib.hid hB
                      have HZ := Lib.hid hZ
                      clear hL hVi hrow hT hA hX hB ho hZ
                      go_wp2_with fail
                      refine Plan.wp_region_plan (fun wx => wr.grownBy wx o) 13 [(0, true), (1, true), (2, true), (3, true), (4, true), (5, true), (6, true), (7, true), (8, true), (9, true), (10, false), (11, false), (12, true), (13, false)] (by kernel_rfl) (by kernel_rfl) (Plan.grown_drew _ _) ?_
                      (repeat (first | (refine Plan.plan_read (v := ?_) rfl rfl ?_ ?_; rotate_left; (focus ((intro wS hSw; have hkS := Plan.grown_cells hSw; go_simp); try with_reducible rfl)); simp only [Act.put, List.setIfInBounds_toArray, List.set_cons_zero, List.set_cons_succ]) | (refine Plan.plan_skip rfl rfl ?_; simp only [Act.put, List.setIfInBounds_toArray, List.set_cons_zero, List.set_cons_succ])))
                      (refine Plan.plan_write rfl (fun K hK => ?_); try go_simp)
                      refine hK.out _ _ (Plan.grown_alloc (Plan.grown_drew _ _) _) ?_
                      clear hK K
                      try simp only [Act.put, List.setIfInBounds_toArray, List.set_cons_zero, List.set_cons_succ]
                      refine Plan.plan_write rfl (fun K hK => ?_)
                      refine step_append_any _ (by rfl) _ _ 22 (by rfl) (w.heap.size + 2) 9 i2 _ 1 16 Try.underlying22 ri rz0 rz1 rz2 rfl (by omega) _ L.length _ (by rfl) ((Hrow.out.alloc _).drew) (_ + 1) (some ⟨wr.heap.size, 0, none⟩) 1 1 [.string s] (by rfl) ⟨rfl, fun _ => ⟨_, rfl, Nat.lt_succ_self _, cells_at (by rfl) _ _⟩⟩ (fun u hu => by obtain rfl := List.mem_singleton.1 hu; rfl) (by unfold maxLen; omega) (by omega) (by simp; omega) ?_
                      intro v' w3 hO3 hG3 hob3
                      obtain ⟨o3, c3, hv3, _⟩ := ad_of_owns hO3
                      subst hv3
                      rw [ad_block, ad_block] at hob3
                      rw [ad_block] at hG3
                      have hG := Plan.grown_go (Plan.grown_alloc (Plan.grown_drew _ _) _) hG3
                      refine hK.out _ _ hG ?_
                      clear hK K
                      try simp only [Act.put, List.setIfInBounds_toArray, List.set_cons_zero, List.set_cons_succ]
                      have z0 := (Plan.grown_cells hG (w.heap.size + 1) 3 hgz n0).trans t1
                      have z1 := (World.frozen?_of_block (a := ⟨(w.heap.size + 1), 3, none⟩) (hG.block (w.heap.size + 1) hgz n0)).trans t2
                      replace hO3 := Lib.hid hO3
                      (repeat (first | (refine Plan.plan_read (v := ?_) rfl rfl ?_ ?_; rotate_left; (focus ((intro wS hSw; have hkS := Plan.grown_cells hSw; go_simp); try with_reducible rfl)); simp only [Act.put, List.setIfInBounds_toArray, List.set_cons_zero, List.set_cons_succ]) | (refine Plan.plan_skip rfl rfl ?_; simp only [Act.put, List.setIfInBounds_toArray, List.set_cons_zero, List.set_cons_succ])))
                      (refine Plan.plan_last rfl (fun K hK => ?_); go_simp; refine hK.out _ _ ?_; clear hK K; try simp only [Act.put, List.setIfInBounds_toArray, List.set_cons_zero, List.set_cons_succ])
                      go_wp2_with fail
                      have hT3 := HT.out.store (x := 3) (v' := .slice (ad o3) (L.length + 1) c3) (L' := L ++ [s]) (by omega) (by rw [HVi.out, ad_block]; exact hG) (by rw [List.length_append, List.length_singleton, List.flatMap_append, List.flatMap_cons, List.flatMap_nil, List.append_nil]; exact hO3.out) (fun q e => by
                        rw [HVi.out, ad_block]
                        rw [ad_block] at e
                        rcases hob3 with h | h
                        · exact .inl (h.symm.trans e)
                        · rw [e] at h; have h := Option.some.inj h; right; rw [h]; simp)
                      go_roundw
                      case rel =>
                        refine ⟨k + 1, _, _, by omega, by go_num, hT3, fun v hv => ?_, fun v hv => ?_, (HX.out.keep (hG.block _ (by omega) n1)).keep (Below.heap_setCell _ _ _ _ (show w.heap.size ≠ w.heap.size + 1 by omega)), (HB.out.grown hG (by omega) (fun q e => by have := (Hrow.out.lt q (by rw [ad_block]; exact e)).1; omega)).setCell (p := ⟨(w.heap.size + 1), 3, none⟩) (by show w.heap.size ≤ w.heap.size + 1; omega) _⟩
                        · have := HA.out v hv
                          have := hAl
                          show (if v = 3 then L ++ [s] else A v).length ≤ 56 + (k + 1)
                          split
                          · rw [List.length_append, List.length_singleton]; omega
                          · omega
                        · show ∀ x ∈ (if v = 3 then L ++ [s] else A v), x.size ≤ 9223372036854775807
                          split
                          · intro x hx
                            rcases List.mem_append.1 hx with h | h
                            · exact HZ.out 3 (by omega) x (by rw [← HL.out]; exact h)
                            · rw [List.mem_singleton.1 h]; exact hss
                          · exact HZ.out v hv
                      case measure => simp [intOf]; omega
                    · obtain rfl : l6 = k := by omega
                      clear hlt hk
                      have x6 : wr.cell? ⟨w.heap.size, 6, none⟩ = some (.slice a6 l6 c6) := hX.cell rfl
                      go_wp2_with fail
                      have hA2 : ∀ v, v < 5 → (A v).length ≤ 62 + 0 := fun v hv => by have := hA v hv; omega
                      have hA := hA2
                      clear hA2
                      go_loopw [9] (fun kv wr => ∃ (k : Nat) (V : Nat → Value) (A : Nat → List ByteArray), k ≤ l7 ∧ kv = .int .i64 k ∧ TabRows wr (w.heap.size + 2) (w.heap.size + 1) 5 encS 1 9 V A ∧ (∀ v, v < 5 → (A v).length ≤ 62 + k) ∧ (∀ v, v < 5 → ∀ s ∈ A v, s.size ≤ 9223372036854775807) ∧ Box wr w.heap.size (#[.string nm, .slice a1 l1 c1, .int .i64 cl, .slice P pl.length cP, .slice a4 l4 c4, .slice a5 l5 c5, .slice a6 l6 c6, .slice a7 l7 c7, .slice a8 l8 c8, .slice a9 l9 c9, .int .i64 er]) 31 ∧ Below w.heap.size w wr) (fun kv _ => l7 - (intOf kv).toNat)
                      case atStart => exact ⟨0, _, _, Nat.zero_le _, rfl, hT, hA, hZ, hX, hB⟩
                      case round =>
                        clear hT hA hZ hX hB
                        obtain ⟨k, V, A, hk, rfl, hT, hA, hZ, hX, hB⟩ := hrel
                        have hwz := hX.lt
                        have hgz := hT.lt
                        by_cases hlt : k < l7
                        · obtain ⟨b, off, s, ec, hbb, hss, q0⟩ := name_at nameRd (HO.out.below hB).roa hlt
                          dsimp only at ec
                          have x7 : wr.cell? ⟨w.heap.size, 7, none⟩ = some (.slice a7 l7 c7) := hX.cell rfl
                          rw [ec] at x7
                          have Hec := Lib.hid ec
                          clear ec
                          have hbw : b < wr.heap.size := by have := hB.size; omega
                          obtain ⟨t1, t2⟩ := hT.arr 4 (by omega)
                          have hrow := hT.row 4 (by omega)
                          obtain ⟨o, cc, hVi, _⟩ := ad_of_owns hrow
                          rw [hVi] at t1 hrow
                          have ho := fun g (e : o = some g) => hrow.lt g (by rw [ad_block]; exact e)
                          have n0 : some (w.heap.size + 1) ≠ o := fun e => by have := ho _ e.symm; omega
                          have n1 : some w.heap.size ≠ o := fun e => by have := ho _ e.symm; omega
                          have n2 : some b ≠ o := fun e => by have := ho _ e.symm; omega
                          have hAl := hA 4 (by omega)
                          obtain ⟨L, hL⟩ : ∃ L, L = A 4 := ⟨_, rfl⟩
                          rw [← hL] at hrow t1 hAl
                          have HL := Lib.hid hL
                          have HVi := Lib.hid hVi
                          have Hrow := Lib.hid hrow
                          have HT := Lib.hid hT
                          have HA := Lib.hid hA
                          have HX := Lib.hid hX
                          have HB := Lib.hid hB
                          have HZ := Lib.hid hZ
                          clear hL hVi hrow hT hA hX hB ho hZ
                          go_wp2_with fail
                          refine Plan.wp_region_plan (fun wx => wr.grownBy wx o) 13 [(0, true), (1, true), (2, true), (3, true), (4, true), (5, true), (6, true), (7, true), (8, true), (9, true), (10, false), (11, false), (12, true), (13, false)] (by kernel_rfl) (by kernel_rfl) (Plan.grown_drew _ _) ?_
                          (repeat (first | (refine Plan.plan_read (v := ?_) rfl rfl ?_ ?_; rotate_left; (focus ((intro wS hSw; have hkS := Plan.grown_cells hSw; go_simp); try with_reducible rfl)); simp only [Act.put, List.setIfInBounds_toArray, List.set_cons_zero, List.set_cons_succ]) | (refine Plan.plan_skip rfl rfl ?_; simp only [Act.put, List.setIfInBounds_toArray, List.set_cons_zero, List.set_cons_succ])))
                          (refine Plan.plan_write rfl (fun K hK => ?_); try go_simp)
                          refine hK.out _ _ (Plan.grown_alloc (Plan.grown_drew _ _) _) ?_
                          clear hK K
                          try simp only [Act.put, List.setIfInBounds_toArray, List.set_cons_zero, List.set_cons_succ]
                          refine Plan.plan_write rfl (fun K hK => ?_)
                          refine step_append_any _ (by rfl) _ _ 22 (by rfl) (w.heap.size + 2) 9 i2 _ 1 16 Try.underlying22 ri rz0 rz1 rz2 rfl (by omega) _ L.length _ (by rfl) ((Hrow.out.alloc _).drew) (_ + 1) (some ⟨wr.heap.size, 0, none⟩) 1 1 [.string s] (by rfl) ⟨rfl, fun _ => ⟨_, rfl, Nat.lt_succ_self _, cells_at (by rfl) _ _⟩⟩ (fun u hu => by obtain rfl := List.mem_singleton.1 hu; rfl) (by unfold maxLen; omega) (by omega) (by simp; omega) ?_
                          intro v' w3 hO3 hG3 hob3
                          obtain ⟨o3, c3, hv3, _⟩ := ad_of_owns hO3
                          subst hv3
                          rw [ad_block, ad_block] at hob3
                          rw [ad_block] at hG3
                          have hG := Plan.grown_go (Plan.grown_alloc (Plan.grown_drew _ _) _) hG3
                          refine hK.out _ _ hG ?_
                          clear hK K
                          try simp only [Act.put, List.setIfInBounds_toArray, List.set_cons_zero, List.set_cons_succ]
                          have z0 := (Plan.grown_cells hG (w.heap.size + 1) 4 hgz n0).trans t1
                          have z1 := (World.frozen?_of_block (a := ⟨(w.heap.size + 1), 4, none⟩) (hG.block (w.heap.size + 1) hgz n0)).trans t2
                          replace hO3 := Lib.hid hO3
                          (repeat (first | (refine Plan.plan_read (v := ?_) rfl rfl ?_ ?_; rotate_left; (focus ((intro wS hSw; have hkS := Plan.grown_cells hSw; go_simp); try with_reducible rfl)); simp only [Act.put, List.setIfInBounds_toArray, List.set_cons_zero, List.set_cons_succ]) | (refine Plan.plan_skip rfl rfl ?_; simp only [Act.put, List.setIfInBounds_toArray, List.set_cons_zero, List.set_cons_succ])))
                          (refine Plan.plan_last rfl (fun K hK => ?_); go_simp; refine hK.out _ _ ?_; clear hK K; try simp only [Act.put, List.setIfInBounds_toArray, List.set_cons_zero, List.set_cons_succ])
                          go_wp2_with fail
                          have hT3 := HT.out.store (x := 4) (v' := .slice (ad o3) (L.length + 1) c3) (L' := L ++ [s]) (by omega) (by rw [HVi.out, ad_block]; exact hG) (by rw [List.length_append, List.length_singleton, List.flatMap_append, List.flatMap_cons, List.flatMap_nil, List.append_nil]; exact hO3.out) (fun q e => by
                            rw [HVi.out, ad_block]
                            rw [ad_block] at e
                            rcases hob3 with h | h
                            · exact .inl (h.symm.trans e)
                            · rw [e] at h; have h := Option.some.inj h; right; rw [h]; simp)
                          go_roundw
                          case rel =>
                            refine ⟨k + 1, _, _, by omega, by go_num, hT3, fun v hv => ?_, fun v hv => ?_, (HX.out.keep (hG.block _ (by omega) n1)).keep (Below.heap_setCell _ _ _ _ (show w.heap.size ≠ w.heap.size + 1 by omega)), (HB.out.grown hG (by omega) (fun q e => by have := (Hrow.out.lt q (by rw [ad_block]; exact e)).1; omega)).setCell (p := ⟨(w.heap.size + 1), 4, none⟩) (by show w.heap.size ≤ w.heap.size + 1; omega) _⟩
                            · have := HA.out v hv
                              have := hAl
                              show (if v = 4 then L ++ [s] else A v).length ≤ 62 + (k + 1)
                              split
                              · rw [List.length_append, List.length_singleton]; omega
                              · omega
                            · show ∀ x ∈ (if v = 4 then L ++ [s] else A v), x.size ≤ 9223372036854775807
                              split
                              · intro x hx
                                rcases List.mem_append.1 hx with h | h
                                · exact HZ.out 4 (by omega) x (by rw [← HL.out]; exact h)
                                · rw [List.mem_singleton.1 h]; exact hss
                              · exact HZ.out v hv
                          case measure => simp [intOf]; omega
                        · obtain rfl : l7 = k := by omega
                          clear hlt hk
                          have x7 : wr.cell? ⟨w.heap.size, 7, none⟩ = some (.slice a7 l7 c7) := hX.cell rfl
                          have hA2 : ∀ v, v < 5 → (A v).length ≤ 190 := fun v hv => by have := hA v hv; omega
                          have hA := hA2
                          clear hA2
                          go_wp2_with fail
                          go_loopw [10] (fun kv wr => ∃ i : Nat, i ≤ 5 ∧ kv = .int .i64 i ∧ TabRows wr (w.heap.size + 2) (w.heap.size + 1) 5 encS 1 9 V A ∧ Box wr w.heap.size (#[.string nm, .slice a1 l1 c1, .int .i64 cl, .slice P pl.length cP, .slice a4 l4 c4, .slice a5 l5 c5, .slice a6 l6 c6, .slice a7 l7 c7, .slice a8 l8 c8, .slice a9 l9 c9, .int .i64 er]) 31 ∧ Below w.heap.size w wr) (fun kv _ => 5 - (intOf kv).toNat)
                          case atStart => exact ⟨0, by omega, rfl, hT, hX, hB⟩
                          case round =>
                            clear hT hX hB
                            obtain ⟨i, hi, rfl, hT, hX, hB⟩ := hrel
                            by_cases hlt : i < 5
                            · obtain ⟨t1, t2⟩ := hT.arr i hlt
                              have hrow := hT.row i hlt
                              obtain ⟨o, cc, hVi, _⟩ := ad_of_owns hrow
                              rw [hVi] at t1 hrow
                              have hln := hA i hlt
                              obtain ⟨n, hn⟩ : ∃ n, (A i).length = n := ⟨_, rfl⟩
                              rw [hn] at t1 hrow hln
                              have KD := Lib.hid (different_any (ad o) n cc wr (sl_of_row hrow hn (hZ i hlt) (by omega)))
                              have HVi := Lib.hid hVi
                              have hwz := hX.lt
                              have hgz := hT.lt
                              clear hrow hVi hn
                              go_wp2_with fail
                              go_at_call 44
                              (with_reducible refine KD.out.mono ?_)
                              rintro e5 w5 ⟨b, rfl, hb5⟩
                              have hB5 := hB.trans (hb5.mono hB.size)
                              cases b
                              · go_wp2_with fail
                                go_ret
                                exact ⟨false, rfl, hB5⟩
                              · go_wp2_with fail
                                go_roundw
                                case rel => exact ⟨i + 1, by omega, by go_num, hT.below hb5, hX.below hb5 hwz, hB5⟩
                                case measure => simp [intOf]; omega
                            · obtain rfl : i = 5 := by omega
                              have x1 : wr.cell? ⟨w.heap.size, 1, none⟩ = some (.slice a1 l1 c1) := hX.cell rfl
                              have KD := Lib.hid (different_any a1 l1 c1 wr ((HO.out.up hB).own))
                              go_wp2_with fail
                              go_at_call 44
                              (with_reducible refine KD.out.mono ?_)
                              rintro e5 w5 ⟨b, rfl, hb5⟩
                              go_wp2_with fail
                              go_ret
                              exact ⟨_, rfl, hB.trans (hb5.mono hB.size)⟩
end Go.Proofs.Ythoigjkelinjhaa.RT
