/- Joined of: Kit Mem Open OpenInts Open2 PMem Make Arr CS CT. -/
import Derived.WalkKit
import Derived.ProofKit
import Derived.OpenShut
import Derived.Below
import Derived.ChangeSame
import Derived.WalkSpells
import Derived.WalkLawsBesides
import Derived.Lib.Hide
import Derived.BigQuiet
import Derived.Deep.QuietTactic
import Derived.Deep.RegionHeld3
import Derived.Deep.Slices
import Derived.Deep.Fields
import Derived.Lib.SmallJoins
import Derived.SizedLaws
import Derived.Laws.MakeOwn
import Derived.Laws.NewBlocks
import Derived.IntWalk
import Derived.Test.YtkbceeobnbbfbaaDoorG01
/- A law's last step, whatever its parameters: the call has answered true and nothing that was there has turned; so its row's post holds. -/
set_option linter.unusedSimpArgs false
set_option linter.unusedVariables false
namespace Go.Proofs.YtkbceeobnbbfbaaDoor.Kit
open Go.ChangeShapes Go.WideShapes Go.ChangeAt Go.RowKit
section
variable {H : Type} {enc : TypeId × Value → H} {P : Program}
theorem trodAll_stays (hl : laidOutB P = true) {W W' : World} {sp : Nat → Bool} : ∀ {ts : List TypeId} {vs : List Value} {ds : List (DataW H)} {ps : List MemPlace},
    (∀ t ∈ ts, P.readableRec t = true ∧ t < P.types.size) → DataW.TrodAll enc P W 0 (fun _ => true) true ts vs ds ps → Below W.heap.size W W' → (∀ x ∈ ps, x.block < W.heap.size) → (∀ x ∈ ps, sp x.block = true) →
    DataW.TrodAll enc P W' 0 sp true ts vs ds ps
  | [], vs, ds, ps, _, h, _, _, _ => by
    cases vs <;> cases ds <;> simp [DataW.TrodAll] at h ⊢
    exact h
  | t :: ts, vs, ds, ps, hr, h, hb, hlt, hsp => by
    obtain ⟨v, vs', d, ds', p, q, rfl, rfl, rfl, h0, h1⟩ := trodAll_cons h
    refine trodAll_cons_mk ?_ (trodAll_stays hl (fun t ht => hr t (List.mem_cons_of_mem _ ht)) h1 hb (fun x hx => hlt x (List.mem_append_right _ hx)) (fun x hx => hsp x (List.mem_append_right _ hx)))
    exact WideElems.Trod_stays hl (hr t List.mem_cons_self).1 (hr t List.mem_cons_self).2 h0 (fun x hx => hb.same (hlt x (List.mem_append_left _ hx))) (fun x hx => hsp x (List.mem_append_left _ hx))

theorem post_of_below {f : Func} {s : ChangeSpec} {apart fresh handsOn again : Bool} {W W' : World} {args : Array Value} {v : Value} {ds gs : List (DataW H)} {before pa pv : List MemPlace}
    (hW : DataW.Whole enc P f.params.toList s.vars apart W args.toList ds gs before)
    (hres : ∀ (b : Nat) (sp : Nat → Bool) (hd : Bool), DataW.TrodAll enc P W' b sp hd f.resultTypes.toList (v.resultList f.resultTypes.size) (s.fn H (ds ++ gs)).results [])
    (hargs : ∀ sp : Nat → Bool, (∀ p ∈ before, sp p.block = true) → DataW.TrodAll enc P W' 0 sp true f.params.toList args.toList (s.fn H (ds ++ gs)).args pa)
    (hvars : ∀ sp : Nat → Bool, (∀ p ∈ before, sp p.block = true) → DataW.TrodVars enc P W' sp s.vars (s.fn H (ds ++ gs)).vars pv)
    (hps : before = pa ++ pv) (hb : Below W.heap.size W W')
    (hok : ∀ (j : Nat) (t : TypeId) (r : Value), f.resultTypes[j]? = some t → (v.resultList f.resultTypes.size)[j]? = some r → Value.okWide P W' .any 0 t r) :
    s.post enc P f apart fresh handsOn again W args v W' := by
  have hlt : ∀ p ∈ before, p.block < W.heap.size := fun p hp => hW.lt p hp
  have hold : ∀ p ∈ before, (fun b => decide (b < W.heap.size)) p.block = true := fun p hp => by simpa using hlt p hp
  refine ⟨ds, gs, before, [], pa, pv, hW, hres _ _ _, hargs _ hold, hvars _ hold, World.keptBut_mono (fun p hp => ⟨hp, ?_⟩) (hb.frame (· ∈ before)), fun _ => ?_⟩
  · rw [hps, List.mem_append] at hp
    exact Or.inr hp
  · obtain ⟨_, _, _, _, _, hz, hn⟩ := hW
    refine ⟨hok, _, _, ([] ++ pa) ++ pv, ⟨[] ++ pa, pv, trodAll_append (hargs _ (fun _ _ => rfl)) (hres _ _ _), hvars _ (fun _ _ => rfl), rfl, ?_, ?_⟩, ?_⟩
    · intro b off hp
      have hin : MemPlace.cell b off ∈ before := by rw [hps]; simpa using hp
      rw [hb.frozen (hlt _ hin)]
      exact hz b off hin
    · intro ha
      have := hn ha
      rw [hps] at this
      simpa using this
    · intro p hp _
      rw [hps]
      simpa using hp

/-- THE LAW'S POST. -/
theorem law_post (hl : laidOutB P = true) {f : Func} {s : ChangeSpec} {apart fresh handsOn again : Bool} {W W' : World} {args : Array Value} {ds gs : List (DataW H)} {before : List MemPlace} {tb : TypeId}
    (hW : DataW.Whole enc P f.params.toList s.vars apart W args.toList ds gs before) (hv : s.vars = []) (hres : f.resultTypes = #[tb]) (htb : P.underlying tb = some .bool)
    (hfn : s.fn H ds = { results := [.lit (.bool true)], args := ds })
    (hread : ∀ t ∈ f.params.toList, P.readableRec t = true ∧ t < P.types.size) (hb : Below W.heap.size W W') :
    s.post enc P f apart fresh handsOn again W args (.bool true) W' := by
  have hW' := hW
  have hlt : ∀ p ∈ before, p.block < W.heap.size := fun p hp => hW.lt p hp
  obtain ⟨p, q, hA, hV, hbef, hfz, hnd⟩ := hW
  rw [hv] at hV
  obtain ⟨rfl, rfl⟩ := trodVars_none hV
  have hA' : DataW.TrodAll enc P W 0 (fun _ => true) true f.params.toList args.toList ds p := hA
  have hp : before = p := by rw [hbef]; simp
  have e : s.fn H (ds ++ []) = { results := [.lit (.bool true)], args := ds } := by rw [List.append_nil]; exact hfn
  refine post_of_below (pa := p) (pv := []) hW' ?_ ?_ ?_ ?_ hb ?_
  · intro b sp hd
    rw [e, hres]
    exact trodAll_mk1 (shut_bool htb true)
  · intro sp hsp
    rw [e]
    exact trodAll_stays hl hread hA' hb (fun x hx => hlt x (by rw [hp]; exact hx)) (fun x hx => hsp x (by rw [hp]; exact hx))
  · intro sp _
    rw [e, hv]
    exact rfl
  · rw [hp]; simp
  · exact ok_one hres rfl (okWide_bool_mk htb true)
end
end Go.Proofs.YtkbceeobnbbfbaaDoor.Kit

/- Memory words: a slice of integers, a slice of structs of whole cells, read as a list; kept over later worlds. -/
namespace Go.Proofs.YtkbceeobnbbfbaaDoor
open Go.RowKit

theorem quiet_left {P : Program} {f : FuncId} {args : Array Value} {w : World} {n : Nat} {v : Value}
    (h : Calls P f args (w.drewN n) fun e w' => e = .returned v ∧ w.drewN n = w') : Calls P f args (w.drewN n) fun e w'' => e = .returned v ∧ ∃ m, w'' = w.drewN m :=
  h.mono fun _ _ ⟨he, hm⟩ => ⟨he, n, hm.symm⟩
theorem quiet_add_left {P : Program} {f : FuncId} {args : Array Value} {w : World} {a n : Nat} {v : Value}
    (h : Calls P f args (w.drewN (a + n)) fun e w' => e = .returned v ∧ w.drewN (a + n) = w') :
    Calls P f args (w.drewN (a + n)) fun e w'' => e = .returned v ∧ ∃ m, w'' = w.drewN (a + m) :=
  h.mono fun _ _ ⟨he, hm⟩ => ⟨he, n, hm.symm⟩
theorem below_drewN {B : Nat} {a w : World} (h : Below B a w) (n : Nat) : Below B a (w.drewN n) := ⟨h.os, h.tape, h.output, h.size, h.block⟩
theorem alloc_drewN (w : World) (n : Nat) (o : Obj) : (w.drewN n).alloc o = (w.alloc o).drewN n := rfl
theorem setCell_drewN (w : World) (n : Nat) (a : Addr) (v : Value) : (w.drewN n).setCell a v = (w.setCell a v).drewN n := rfl
theorem shape_drewN (w : World) (n : Nat) (r : Nat) : (w.drewN n).shape? r = w.shape? r := rfl
theorem ret_bool {a b : Bool} (h : a = b) : Ending.returned (.bool a) = .returned (.bool b) := by rw [h]
theorem ret_int {k : IntKind} {a b : Int} (h : a = b) : Ending.returned (.int k a) = .returned (.int k b) := by rw [h]
theorem bcell {W w1 : World} (hb : Below W.heap.size W w1) : (∀ b o, b < W.heap.size → w1.cell? ⟨b, o, none⟩ = W.cell? ⟨b, o, none⟩) ∧ (∀ b o, b < W.heap.size → w1.frozen? ⟨b, o, none⟩ = W.frozen? ⟨b, o, none⟩) :=
  ⟨fun b o h => hb.cell (p := ⟨b, o, none⟩) h, fun b o h => hb.frozen (p := ⟨b, o, none⟩) h⟩

/-- The address A holds, from its place on, the cells f 0, f 1, .. below m; the block lies below B. -/
def CellsAt (w : World) (B : Nat) (A : Option Addr) (m : Nat) (f : Nat → Value) : Prop :=
  0 < m → ∃ b off, A = some ⟨b, off, none⟩ ∧ b < B ∧ ∀ j, j < m → w.cell? ⟨b, off + j, none⟩ = some (f j)
theorem CellsAt.keep {w w' : World} {B : Nat} {A : Option Addr} {m : Nat} {f : Nat → Value} (h : CellsAt w B A m f) (hk : ∀ b o, b < B → w'.cell? ⟨b, o, none⟩ = w.cell? ⟨b, o, none⟩) : CellsAt w' B A m f := by
  intro hm
  obtain ⟨b, off, e, hb, hc⟩ := h hm
  exact ⟨b, off, e, hb, fun j hj => (hk b _ hb).trans (hc j hj)⟩
theorem CellsAt.more {w : World} {B B' : Nat} {A : Option Addr} {m : Nat} {f : Nat → Value} (h : CellsAt w B A m f) (hB : B ≤ B') : CellsAt w B' A m f := by
  intro hm
  obtain ⟨b, off, e, hb, hc⟩ := h hm
  exact ⟨b, off, e, by omega, hc⟩
theorem CellsAt.below {w w' : World} {B : Nat} {A : Option Addr} {m : Nat} {f : Nat → Value} (h : CellsAt w B A m f) (hb : Below B w w') : CellsAt w' B A m f := h.keep fun b o hlt => hb.cell (p := ⟨b, o, none⟩) hlt
/-- A slice of integers. -/
def intF (l : List Int) (j : Nat) : Value := .int .i64 (l.getD j 0)
def IntsAt (w : World) (B : Nat) (A : Option Addr) (l : List Int) : Prop := CellsAt w B A l.length (intF l)
end Go.Proofs.YtkbceeobnbbfbaaDoor

/- Arguments opened: a slice of integers, and a slice of structs whose fields are all integers, as cells. -/
namespace Go.Proofs.YtkbceeobnbbfbaaDoor
open Go.ChangeShapes Go.WideShapes Go.Deep Go.RowKit
section
variable {H : Type} {enc : TypeId × Value → H} {P : Program} {w : World} {base : Nat} {spare : Nat → Bool} {held : Bool} {r : Reach} {b0 : Nat}
theorem addr_at {a : Addr} {v : Value} (h : w.cell? a = some v) : ∃ b o, a = ⟨b, o, none⟩ ∧ b < w.heap.size := by
  have h1 := World.cell?_spot h
  have h2 := World.block_lt_of_cell? w _ h
  obtain ⟨b, o, s⟩ := a
  obtain rfl : s = none := h1
  exact ⟨b, o, rfl, h2⟩
theorem open_ints_at {t e : TypeId} {v : Value} {d : DataW H} {p : List MemPlace} (ht : P.underlying t = some (.slice e)) (he : P.underlying e = some (.int .i64)) (hc : P.cellsOf e = 1) (hv : Value.okWide P w r b0 t v) (h : DataW.Trod enc P w base spare held t v d p) :
    ∃ (C : Option Addr) (cc : Nat) (zs : List Int), v = .slice C zs.length cc ∧ zs.length ≤ 9223372036854775807 ∧ IntsAt w w.heap.size C zs := by
  obtain ⟨a0, len, cap, rfl⟩ := okWide_slice ht hv
  obtain ⟨fuel, hf⟩ := h
  rcases open_ints ht he hc hf with ⟨hcs, _⟩ | ⟨a, len', cap', zs, hcs, _, hl, hm, hz, _, hcell, _⟩
  · simp [Value.cells] at hcs
    obtain ⟨rfl, rfl, rfl⟩ := hcs
    exact ⟨none, 0, [], rfl, by simp, fun h => absurd h (by simp)⟩
  · simp [Value.cells] at hcs
    obtain ⟨rfl, rfl, rfl⟩ := hcs
    have hzl : len ≤ zs.length := by split at hz <;> omega
    have htl : (zs.take len).length = len := by simp; omega
    unfold maxLen at hm
    refine ⟨some a, cap, zs.take len, by rw [htl], by rw [htl]; omega, fun hpos => ?_⟩
    rw [htl] at hpos ⊢
    obtain ⟨b, o, rfl, hb⟩ := addr_at (by have := hcell 0 (by omega); rwa [Addr.add_zero'] at this)
    refine ⟨b, o, rfl, hb, fun j hj => ?_⟩
    have := hcell j (by omega)
    rw [Addr.add_lit] at this
    rw [this]
    simp [intF, List.getD_eq_getElem?_getD, List.getElem?_take_of_lt hj]
/-- Fields of one cell each, all integers of the kind int. -/
def allInts (P : Program) (fs : Array Field) : Prop := ∀ (j : Nat) (f : Field), fs[j]? = some f → P.underlying f.type = some (.int .i64)
theorem open_int_structs {t e : TypeId} {fs : Array Field} {v : Value} {d : DataW H} {p : List MemPlace} (ht : P.underlying t = some (.slice e)) (he : P.underlying e = some (.struct fs)) (hone : oneCellFields P fs = true) (hC : P.cellsOf e = fs.size) (hi : allInts P fs)
    (hv : Value.okWide P w r b0 t v) (h : DataW.Trod enc P w base spare held t v d p) :
    ∃ (C : Option Addr) (len cc : Nat) (F : Nat → Int), v = .slice C len cc ∧ len ≤ 9223372036854775807 ∧ CellsAt w w.heap.size C (len * fs.size) (fun j => .int .i64 (F j)) := by
  obtain ⟨a0, len, cap, rfl⟩ := okWide_slice ht hv
  obtain ⟨fuel, hf⟩ := h
  rcases open_slice ht hf with ⟨hcs, _⟩ | ⟨a, len', cap', m, n, D, Pl, hcs, hb, hl, hm, hmm, _, hel⟩
  · simp [Value.cells] at hcs
    obtain ⟨rfl, rfl, rfl⟩ := hcs
    exact ⟨none, 0, 0, fun _ => 0, rfl, by simp, fun h => absurd h (by simp)⟩
  · simp [Value.cells] at hcs
    obtain ⟨rfl, rfl, rfl⟩ := hcs
    have hml : len ≤ m := by rw [hmm]; split <;> omega
    unfold maxLen at hm
    have key : ∀ q, q < len * fs.size → ∃ z : Int, w.cell? (a.add q) = some (.int .i64 z) := by
      intro q hq
      have hpos : 0 < fs.size := by
        rcases Nat.eq_zero_or_pos fs.size with g | g
        · rw [g] at hq; omega
        · exact g
      have hi1 : q / fs.size < len := Nat.div_lt_of_lt_mul (by rw [Nat.mul_comm]; exact hq)
      have hj1 : q % fs.size < fs.size := Nat.mod_lt _ hpos
      have hqe : q / fs.size * fs.size + q % fs.size = q := by rw [Nat.mul_comm]; exact Nat.div_add_mod q fs.size
      obtain ⟨cs', hc, ht'⟩ := hel (q / fs.size) (by omega)
      rw [hC] at hc
      obtain ⟨ys, n', hn', hy, hlen, hyl, hfd⟩ := DataW.trod_struct he ht'
      obtain ⟨_, hcl, hat⟩ := World.cells?_some hc
      have hfj : fs[q % fs.size]? = some fs[q % fs.size] := Array.getElem?_eq_getElem hj1
      obtain ⟨ho, hk⟩ := hone_of hone _ _ hfj
      have hcell := hat (q % fs.size) hj1
      have h1 := hfd _ _ hfj
      rw [ho, hk] at h1
      have hone' : (cs'.drop (q % fs.size)).take 1 = [cs'[q % fs.size]'(by omega)] := by
        rw [List.drop_eq_getElem_cons (by omega)]; rfl
      have hlt : q % fs.size < ys.length := by omega
      rw [hone', List.getElem?_eq_getElem hlt] at h1
      obtain ⟨z, hz, _⟩ := DataW.trod_int (hi _ _ hfj) h1
      refine ⟨z, ?_⟩
      rw [Go.Deep.add_add, hqe] at hcell
      rw [hcell, List.getElem?_eq_getElem (by omega)]
      simp at hz
      rw [hz]
    obtain ⟨F, hF⟩ : ∃ F : Nat → Int, ∀ q, q < len * fs.size → w.cell? (a.add q) = some (.int .i64 (F q)) :=
      ⟨fun q => if h : q < len * fs.size then (key q h).choose else 0, fun q h => by simp only [h, dite_true]; exact (key q h).choose_spec⟩
    refine ⟨some a, len, cap, F, rfl, by omega, fun hpos => ?_⟩
    obtain ⟨b, o, ha, hbl⟩ := addr_at (by have := hF 0 hpos; rwa [Addr.add_zero'] at this)
    refine ⟨b, o, by rw [ha], hbl, fun j hj => ?_⟩
    have := hF j hj
    rw [ha, Addr.add_lit] at this
    exact this
end
end Go.Proofs.YtkbceeobnbbfbaaDoor

/- Arguments opened: structs (of structs) all of whose cells are integers, by value and in slices. -/
namespace Go.Proofs.YtkbceeobnbbfbaaDoor.RR
open Go.ChangeShapes Go.WideShapes Go.Deep Go.RowKit Go.ChangeAt
/-- All cells of a type are integers. -/
def intsB (P : Program) : Nat → TypeId → Bool
  | 0, _ => false
  | n + 1, t => match P.underlying t with
    | some (.int .i64) => true
    | some (.struct fs) => (List.range (P.cellsOf t)).all fun j => fs.toList.any fun f => decide (f.offset ≤ j) && decide (j < f.offset + P.cellsOf f.type) && intsB P n f.type
    | _ => false
def IsInt (u : Value) : Prop := ∃ z : Int, u = .int .i64 z ∧ -9223372036854775808 ≤ z ∧ z ≤ 9223372036854775807
section
variable {H : Type} {enc : TypeId × Value → H} {P : Program} {w : World} {base : Nat} {spare : Nat → Bool} {held : Bool} {r : Reach} {b0 : Nat}
theorem wf_bd {a : Int} (h : (Lit.int .i64 a).wf = true) : -9223372036854775808 ≤ a ∧ a ≤ 9223372036854775807 := by
  simp only [Lit.wf, IntKind.min, IntKind.max, IntKind.signed, IntKind.bits, Bool.and_eq_true, decide_eq_true_eq, if_true] at h
  omega
theorem trod_ints : ∀ (n : Nat) (t : TypeId) (cs : List Value) (fuel : Nat) (x : DataW H × List MemPlace), intsB P n t = true → DataW.trod enc P w base spare held fuel t cs = some x → ∀ (j : Nat) (u : Value), cs[j]? = some u → IsInt u
  | 0, _, _, _, _, h, _, _, _, _ => by simp [intsB] at h
  | n + 1, t, cs, fuel, x, h, ht, j, u, hj => by
    unfold intsB at h
    split at h
    · rename_i hu
      obtain ⟨z, hz, _, hw⟩ := DataW.trod_int hu ht
      rw [hz] at hj
      have : u = .int .i64 z := by
        cases j with
        | zero => simpa using hj.symm
        | succ j => simp at hj
      exact ⟨z, this, wf_bd hw⟩
    · rename_i fs hu
      obtain ⟨xs, m, _, _, hl, hlen, hg⟩ := DataW.trod_struct hu ht
      have hjl : j < cs.length := (List.getElem?_eq_some_iff.1 hj).1
      have := List.all_eq_true.1 h j (List.mem_range.2 (by omega))
      obtain ⟨f, hf, hb⟩ := List.any_eq_true.1 this
      simp only [Bool.and_eq_true, decide_eq_true_eq] at hb
      obtain ⟨i, hi⟩ := List.mem_iff_getElem?.1 hf
      rw [Array.getElem?_toList] at hi
      have h1 := hg i f hi
      have hil : i < xs.length := by rw [hlen]; exact (Array.getElem?_eq_some_iff.1 hi).1
      rw [List.getElem?_eq_getElem hil] at h1
      refine trod_ints n f.type _ m _ hb.2 h1 (j - f.offset) u ?_
      rw [List.getElem?_take_of_lt (by omega), List.getElem?_drop, show f.offset + (j - f.offset) = j by omega]
      exact hj
    · cases h
/-- A struct by value. -/
theorem open_struct_ints {t : TypeId} {fs : Array Field} {v : Value} {d : DataW H} {p : List MemPlace} (hs : P.underlying t = some (.struct fs)) {n k : Nat} (hi : intsB P n t = true) (hC : P.cellsOf t = k) (hv : Value.okWide P w r b0 t v) (h : DataW.Trod enc P w base spare held t v d p) :
    ∃ F : Nat → Int, v = .agg ((List.range k).map fun j => Value.int .i64 (F j)).toArray ∧ ∀ j, -9223372036854775808 ≤ F j ∧ F j ≤ 9223372036854775807 := by
  obtain ⟨cs, rfl, hsz⟩ := okWide_struct hs hv
  obtain ⟨fuel, hf⟩ := h
  have hcl : (Value.agg cs).cells.toList = cs.toList := rfl
  rw [hcl] at hf
  have key := trod_ints n t cs.toList fuel _ hi hf
  have each : ∀ j, ∃ z : Int, (-9223372036854775808 ≤ z ∧ z ≤ 9223372036854775807) ∧ (j < k → cs[j]? = some (.int .i64 z)) := fun j => by
    by_cases hj : j < k
    · have hlt : j < cs.size := by rw [hsz, hC]; exact hj
      obtain ⟨z, hz, hb⟩ := key j cs[j] (by simp [hlt])
      exact ⟨z, hb, fun _ => by rw [Array.getElem?_eq_getElem hlt, hz]⟩
    · exact ⟨0, by omega, fun h => absurd h hj⟩
  obtain ⟨F, hF⟩ := Classical.skolem.1 each
  refine ⟨F, ?_, fun j => (hF j).1⟩
  congr 1
  apply Array.ext_getElem?
  intro j
  by_cases hj : j < k
  · rw [(hF j).2 hj]
    simp [hj]
  · rw [Array.getElem?_eq_none (by rw [hsz, hC]; omega)]
    simp [hj]
/-- A slice of such structs. -/
theorem open_slice_ints {t e : TypeId} {v : Value} {d : DataW H} {p : List MemPlace} (ht : P.underlying t = some (.slice e)) {n k : Nat} (hi : intsB P n e = true) (hC : P.cellsOf e = k) (hk : 0 < k) (hv : Value.okWide P w r b0 t v) (h : DataW.Trod enc P w base spare held t v d p) :
    ∃ (C : Option Addr) (len cc : Nat) (F : Nat → Int), v = .slice C len cc ∧ len ≤ 9223372036854775807 ∧ CellsAt w w.heap.size C (len * k) (fun j => .int .i64 (F j)) ∧ ∀ j, -9223372036854775808 ≤ F j ∧ F j ≤ 9223372036854775807 := by
  obtain ⟨a0, len, cap, rfl⟩ := okWide_slice ht hv
  obtain ⟨fuel, hf⟩ := h
  rcases open_slice ht hf with ⟨hcs, _⟩ | ⟨a, len', cap', m, n', D, Pl, hcs, hb, hl, hm, hmm, _, hel⟩
  · simp [Value.cells] at hcs
    obtain ⟨rfl, rfl, rfl⟩ := hcs
    exact ⟨none, 0, 0, fun _ => 0, rfl, by simp, fun h => absurd h (by simp), fun j => by show -9223372036854775808 ≤ (0 : Int) ∧ (0 : Int) ≤ 9223372036854775807; omega⟩
  · simp [Value.cells] at hcs
    obtain ⟨rfl, rfl, rfl⟩ := hcs
    have hml : len ≤ m := by rw [hmm]; split <;> omega
    unfold maxLen at hm
    have each : ∀ q, ∃ z : Int, (-9223372036854775808 ≤ z ∧ z ≤ 9223372036854775807) ∧ (q < len * k → w.cell? (a.add q) = some (.int .i64 z)) := fun q => by
      by_cases hq : q < len * k
      · have hi1 : q / k < len := Nat.div_lt_of_lt_mul (by rw [Nat.mul_comm]; exact hq)
        have hj1 : q % k < k := Nat.mod_lt _ hk
        have hqe : q / k * k + q % k = q := by rw [Nat.mul_comm]; exact Nat.div_add_mod q k
        obtain ⟨cs', hc, ht'⟩ := hel (q / k) (by omega)
        rw [hC] at hc
        obtain ⟨_, hcl, hat⟩ := World.cells?_some hc
        have hlt : q % k < cs'.length := by omega
        obtain ⟨z, hz, hbd⟩ := trod_ints n e cs' n' _ hi ht' (q % k) _ (List.getElem?_eq_getElem hlt)
        refine ⟨z, hbd, fun _ => ?_⟩
        have hcell := hat (q % k) hj1
        rw [Go.Deep.add_add, hqe] at hcell
        rw [hcell, List.getElem?_eq_getElem hlt, hz]
      · exact ⟨0, by omega, fun h => absurd h hq⟩
    obtain ⟨F, hF⟩ := Classical.skolem.1 each
    refine ⟨some a, len, cap, F, rfl, by omega, fun hpos => ?_, fun j => (hF j).1⟩
    obtain ⟨b, o, ha, hbl⟩ := addr_at (by have := (hF 0).2 hpos; rwa [Addr.add_zero'] at this)
    refine ⟨b, o, by rw [ha], hbl, fun j hj => ?_⟩
    have := (hF j).2 hj
    rw [ha, Addr.add_lit] at this
    exact this
end
end Go.Proofs.YtkbceeobnbbfbaaDoor.RR

/- Arguments opened: a slice of structs of one-cell fields, whatever their types: each field's cell, and that it reads. -/
namespace Go.Proofs.YtkbceeobnbbfbaaDoor
open Go.ChangeShapes Go.WideShapes Go.Deep Go.RowKit
section
variable {H : Type} {enc : TypeId × Value → H} {P : Program} {w : World} {base : Nat} {spare : Nat → Bool} {held : Bool} {r : Reach} {b0 : Nat}
/-- The same of a field that is a slice itself: no okWide is known of it, its reading tells its shape. -/
theorem open_fields {t e : TypeId} {fs : Array Field} {fuel : Nat} {cs : List Value} {x : DataW H × List MemPlace} (ht : P.underlying t = some (.slice e)) (he : P.underlying e = some (.struct fs)) (hone : oneCellFields P fs = true) (hC : P.cellsOf e = fs.size) (h0 : 0 < fs.size)
    (h : DataW.trod enc P w base spare held fuel t cs = some x) :
    ∃ (C : Option Addr) (len cc : Nat), cs = [.slice C len cc] ∧ len ≤ 9223372036854775807 ∧ ∃ (b off : Nat), (0 < len → C = some ⟨b, off, none⟩ ∧ b < w.heap.size) ∧
      ∀ i, i < len → ∀ (j : Nat) (f : Field), fs[j]? = some f → ∃ (u : Value) (n : Nat) (y : DataW H × List MemPlace), w.cell? ⟨b, off + (i * fs.size + j), none⟩ = some u ∧ DataW.trod enc P w base spare held n f.type [u] = some y := by
  rcases open_slice ht h with ⟨hcs, _⟩ | ⟨a, len, cap, m, n, D, Pl, hcs, hb, hl, hm, hmm, _, hel⟩
  · exact ⟨none, 0, 0, hcs, by simp, 0, 0, fun h => absurd h (by simp), fun i hi => absurd hi (by simp)⟩
  · have hml : len ≤ m := by rw [hmm]; split <;> omega
    unfold maxLen at hm
    have key : ∀ i, i < len → ∀ (j : Nat) (f : Field), fs[j]? = some f → ∃ (u : Value) (n : Nat) (y : DataW H × List MemPlace), w.cell? (a.add (i * fs.size + j)) = some u ∧ DataW.trod enc P w base spare held n f.type [u] = some y := by
      intro i hi j f hfj
      have hj1 : j < fs.size := (Array.getElem?_eq_some_iff.1 hfj).1
      obtain ⟨cs', hc, ht'⟩ := hel i (by omega)
      rw [hC] at hc
      obtain ⟨ys, n', hn', hy, hlen, hyl, hfd⟩ := DataW.trod_struct he ht'
      obtain ⟨_, hcl, hat⟩ := World.cells?_some hc
      obtain ⟨ho, hk⟩ := hone_of hone _ _ hfj
      have hcell := hat j hj1
      have h1 := hfd _ _ hfj
      rw [ho, hk] at h1
      have hone' : (cs'.drop j).take 1 = [cs'[j]'(by omega)] := by
        rw [List.drop_eq_getElem_cons (by omega)]; rfl
      have hlt : j < ys.length := by omega
      rw [hone', List.getElem?_eq_getElem hlt] at h1
      refine ⟨_, _, _, ?_, h1⟩
      rw [Go.Deep.add_add] at hcell
      rw [hcell, List.getElem?_eq_getElem (by omega)]
    rcases Nat.eq_zero_or_pos len with g | g
    · subst g
      exact ⟨some a, 0, cap, hcs, by omega, 0, 0, fun h => absurd h (by simp), fun i hi => absurd hi (by simp)⟩
    · obtain ⟨f, hf⟩ : ∃ f, fs[0]? = some f := ⟨_, Array.getElem?_eq_getElem h0⟩
      obtain ⟨u, n0, y, hu, _⟩ := key 0 g 0 f hf
      obtain ⟨b, o, e1, hbs⟩ := addr_at hu
      have e2 : a = ⟨b, o, none⟩ := by simpa [Addr.add_zero'] using e1
      subst e2
      refine ⟨_, len, cap, hcs, by omega, b, o, fun _ => ⟨rfl, hbs⟩, fun i hi j f hf => ?_⟩
      obtain ⟨u, n0, y, hu, hy⟩ := key i hi j f hf
      rw [Addr.add_lit] at hu
      exact ⟨u, n0, y, hu, hy⟩
theorem open_fields_at {t e : TypeId} {fs : Array Field} {v : Value} {d : DataW H} {p : List MemPlace} (ht : P.underlying t = some (.slice e)) (he : P.underlying e = some (.struct fs)) (hone : oneCellFields P fs = true) (hC : P.cellsOf e = fs.size) (h0 : 0 < fs.size)
    (hv : Value.okWide P w r b0 t v) (h : DataW.Trod enc P w base spare held t v d p) :
    ∃ (C : Option Addr) (len cc : Nat), v = .slice C len cc ∧ len ≤ 9223372036854775807 ∧ ∃ (b off : Nat), (0 < len → C = some ⟨b, off, none⟩ ∧ b < w.heap.size) ∧
      ∀ i, i < len → ∀ (j : Nat) (f : Field), fs[j]? = some f → ∃ (u : Value) (n : Nat) (y : DataW H × List MemPlace), w.cell? ⟨b, off + (i * fs.size + j), none⟩ = some u ∧ DataW.trod enc P w base spare held n f.type [u] = some y := by
  obtain ⟨a0, len, cap, rfl⟩ := okWide_slice ht hv
  obtain ⟨fuel, hf⟩ := h
  obtain ⟨C, len', cc, hcs, h1, b, off, h2, h3⟩ := open_fields ht he hone hC h0 hf
  simp [Value.cells] at hcs
  obtain ⟨rfl, rfl, rfl⟩ := hcs
  exact ⟨_, _, _, rfl, h1, b, off, h2, h3⟩
end
end Go.Proofs.YtkbceeobnbbfbaaDoor

/- Memory words: pairs of integers, rights, places. -/
namespace Go.Proofs.YtkbceeobnbbfbaaDoor
open Go.RowKit CM

theorem ret_bool' {a b : Bool} (h : a = b) : Ending.returned (.bool a) = .returned (.bool b) := by rw [h]
/-- A slice of pairs of integers. -/
def pairF (A : List (Int × Int)) (j : Nat) : Value := match j % 2 with | 0 => .int .i64 (A.getD (j / 2) (0, 0)).1 | _ => .int .i64 (A.getD (j / 2) (0, 0)).2
def PairsAt (w : World) (B : Nat) (C : Option Addr) (A : List (Int × Int)) : Prop := CellsAt w B C (2 * A.length) (pairF A)
theorem PairsAt.at_ {w : World} {B : Nat} {C : Option Addr} {A : List (Int × Int)} (h : PairsAt w B C A) {k : Nat} {x : Int × Int} (hk : A[k]? = some x) : ∃ b off, C = some ⟨b, off, none⟩ ∧ b < B ∧
    w.cell? ⟨b, off + k * 2, none⟩ = some (.int .i64 x.1) ∧ w.cell? ⟨b, off + k * 2 + 1, none⟩ = some (.int .i64 x.2) := by
  have hlt := (List.getElem?_eq_some_iff.1 hk).1
  obtain ⟨b, off, e, hb, hc⟩ := h (by omega)
  have c0 := hc (k * 2) (by omega)
  have c1 := hc (k * 2 + 1) (by omega)
  have m0 : (k * 2) % 2 = 0 := by omega
  have m1 : (k * 2 + 1) % 2 = 1 := by omega
  have d0 : (k * 2) / 2 = k := by omega
  have d1 : (k * 2 + 1) / 2 = k := by omega
  have hx : A.getD k (0, 0) = x := by rw [List.getD_eq_getElem?_getD, hk]; rfl
  simp only [pairF, m0, m1, d0, d1, hx] at c0 c1
  exact ⟨b, off, e, hb, c0, c1⟩
theorem PairsAt.below {w w' : World} {B : Nat} {C : Option Addr} {A : List (Int × Int)} (h : PairsAt w B C A) (hb : Below B w w') : PairsAt w' B C A := CellsAt.below h hb
theorem PairsAt.more {w : World} {B B' : Nat} {C : Option Addr} {A : List (Int × Int)} (h : PairsAt w B C A) (hB : B ≤ B') : PairsAt w B' C A := CellsAt.more h hB
def pairC (x : Int × Int) : List Value := [.int .i64 x.1, .int .i64 x.2]
def rowP (A : List (Int × Int)) : List Value := A.flatMap pairC
theorem rowP_snoc (A : List (Int × Int)) (x : Int × Int) : rowP (A ++ [x]) = rowP A ++ pairC x := by simp [rowP]
theorem rowP_len (A : List (Int × Int)) : (rowP A).length = A.length * 2 := by
  unfold rowP
  induction A with
  | nil => rfl
  | cons t ts ih => simp [List.flatMap_cons, pairC] at ih ⊢; omega
theorem rowP_get : ∀ (A : List (Int × Int)) (j : Nat), j < A.length * 2 → (rowP A)[j]? = some (pairF A j)
  | [], j, h => by simp at h
  | t :: ts, 0, _ => rfl
  | t :: ts, 1, _ => rfl
  | t :: ts, j + 2, h => by
    have ih := rowP_get ts j (by simp at h; omega)
    have e1 : rowP (t :: ts) = pairC t ++ rowP ts := rfl
    rw [e1, List.getElem?_append_right (by simp [pairC])]
    rw [show j + 2 - (pairC t).length = j by simp [pairC], ih]
    congr 1
    unfold pairF
    rw [show (j + 2) % 2 = j % 2 by omega, show (j + 2) / 2 = j / 2 + 1 by omega]
    rfl
/-- What the call has made of pairs, read as a slice. -/
theorem pairs_of_owns {w : World} {base e : Nat} {v : Value} {A : List (Int × Int)} (h : w.ownsRow base e 2 v A.length (rowP A)) : ∃ C cc, v = .slice C A.length cc ∧ PairsAt w w.heap.size C A := by
  obtain ⟨h1, ⟨rfl, h0⟩ | ⟨g, cap, cur, rfl, h2, h3, h4, h5, h6, h7⟩⟩ := h
  · obtain rfl : A = [] := List.eq_nil_of_length_eq_zero h0
    exact ⟨none, 0, rfl, fun h => absurd h (by simp)⟩
  · refine ⟨_, cap, rfl, fun _ => ⟨g, 0, rfl, ?_, fun j hj => ?_⟩⟩
    · rcases Nat.lt_or_ge g w.heap.size with h | h
      · exact h
      · rw [Array.getElem?_eq_none h] at h3; cases h3
    · have hj : j < A.length * 2 := by omega
      rw [Nat.zero_add, cell_of_row w g j cur e (0, 0) h3]
      have := rowP_get A j hj
      rw [← h7, List.getElem?_take_of_lt hj] at this
      simpa using this
theorem ints_of_owns {w : World} {base e : Nat} {v : Value} {A : List Int} (h : w.ownsRow base e 1 v A.length (A.map (Value.int .i64))) : ∃ C cc, v = .slice C A.length cc ∧ IntsAt w w.heap.size C A := by
  obtain ⟨h1, ⟨rfl, h0⟩ | ⟨g, cap, cur, rfl, h2, h3, h4, h5, h6, h7⟩⟩ := h
  · obtain rfl : A = [] := List.eq_nil_of_length_eq_zero h0
    exact ⟨none, 0, rfl, fun h => absurd h (by simp)⟩
  · refine ⟨_, cap, rfl, fun _ => ⟨g, 0, rfl, ?_, fun j hj => ?_⟩⟩
    · rcases Nat.lt_or_ge g w.heap.size with h | h
      · exact h
      · rw [Array.getElem?_eq_none h] at h3; cases h3
    · rw [Nat.zero_add, cell_of_row w g j cur e (0, 0) h3]
      have : (A.map (Value.int .i64))[j]? = some (intF A j) := by simp [intF, List.getD_eq_getElem?_getD, hj]
      rw [← h7, List.getElem?_take_of_lt (by omega)] at this
      simpa using this
theorem IntsAt.at_ {w : World} {B : Nat} {C : Option Addr} {A : List Int} (h : IntsAt w B C A) {k : Nat} {x : Int} (hk : A[k]? = some x) : ∃ b off, C = some ⟨b, off, none⟩ ∧ b < B ∧ w.cell? ⟨b, off + k, none⟩ = some (.int .i64 x) := by
  have hlt := (List.getElem?_eq_some_iff.1 hk).1
  obtain ⟨b, off, e, hb, hc⟩ := h (by omega)
  refine ⟨b, off, e, hb, ?_⟩
  rw [hc k hlt]
  simp [intF, List.getD_eq_getElem?_getD, hk]
theorem IntsAt.below {w w' : World} {B : Nat} {C : Option Addr} {A : List Int} (h : IntsAt w B C A) (hb : Below B w w') : IntsAt w' B C A := CellsAt.below h hb
theorem IntsAt.more {w : World} {B B' : Nat} {C : Option Addr} {A : List Int} (h : IntsAt w B C A) (hB : B ≤ B') : IntsAt w B' C A := CellsAt.more h hB
def CM.Rt.cells (r : Rt) : List Value := [.int .i64 r.id, .int .i64 r.owner, .int .i64 r.date, .int .i64 r.place, .int .i64 r.rate, .int .i64 r.from1, .int .i64 r.until1, .int .i64 r.back, .int .i64 r.backTo]
def RightsAt (w : World) (B : Nat) (C : Option Addr) (A : List Rt) : Prop :=
  0 < A.length → ∃ b off, C = some ⟨b, off, none⟩ ∧ b < B ∧ ∀ (k : Nat) (r : Rt), A[k]? = some r → ∀ (j : Nat) (v : Value), r.cells[j]? = some v → w.cell? ⟨b, off + (k * 9 + j), none⟩ = some v
theorem RightsAt.below {w w' : World} {B : Nat} {C : Option Addr} {A : List Rt} (h : RightsAt w B C A) (hb : Below B w w') : RightsAt w' B C A := fun hl => by
  obtain ⟨b, off, e, hlt, hc⟩ := h hl
  exact ⟨b, off, e, hlt, fun k r hk j v hj => (hb.cell (p := ⟨b, _, none⟩) hlt).trans (hc k r hk j v hj)⟩
theorem RightsAt.more {w : World} {B B' : Nat} {C : Option Addr} {A : List Rt} (h : RightsAt w B C A) (hB : B ≤ B') : RightsAt w B' C A := fun hl => by
  obtain ⟨b, off, e, hlt, hc⟩ := h hl
  exact ⟨b, off, e, by omega, hc⟩
theorem RightsAt.at_ {w : World} {B : Nat} {C : Option Addr} {A : List Rt} (h : RightsAt w B C A) {k : Nat} {r : Rt} (hk : A[k]? = some r) : ∃ b off, C = some ⟨b, off, none⟩ ∧ b < B ∧
    w.cell? ⟨b, off + k * 9, none⟩ = some (.int .i64 r.id) ∧ w.cell? ⟨b, off + k * 9 + 1, none⟩ = some (.int .i64 r.owner) ∧ w.cell? ⟨b, off + k * 9 + 2, none⟩ = some (.int .i64 r.date) ∧
    w.cell? ⟨b, off + k * 9 + 3, none⟩ = some (.int .i64 r.place) ∧ w.cell? ⟨b, off + k * 9 + 4, none⟩ = some (.int .i64 r.rate) ∧ w.cell? ⟨b, off + k * 9 + 5, none⟩ = some (.int .i64 r.from1) ∧
    w.cell? ⟨b, off + k * 9 + 6, none⟩ = some (.int .i64 r.until1) ∧ w.cell? ⟨b, off + k * 9 + 7, none⟩ = some (.int .i64 r.back) ∧ w.cell? ⟨b, off + k * 9 + 8, none⟩ = some (.int .i64 r.backTo) := by
  have hlt := (List.getElem?_eq_some_iff.1 hk).1
  obtain ⟨b, off, e, hb, hc⟩ := h (by omega)
  have g := hc k r hk
  exact ⟨b, off, e, hb, g 0 _ rfl, g 1 _ rfl, g 2 _ rfl, g 3 _ rfl, g 4 _ rfl, g 5 _ rfl, g 6 _ rfl, g 7 _ rfl, g 8 _ rfl⟩
/-- The places of a basin: of each, where its water goes and how long it takes. -/
def PlacesAt (w : World) (B : Nat) (C : Option Addr) (pl : Pl) : Prop :=
  0 < pl.length → ∃ b off, C = some ⟨b, off, none⟩ ∧ b < B ∧ ∀ k, k < pl.length → w.cell? ⟨b, off + k * 12 + 8, none⟩ = some (.int .i64 (downP pl k)) ∧ w.cell? ⟨b, off + k * 12 + 9, none⟩ = some (.int .i64 (delayP pl k))
theorem PlacesAt.below {w w' : World} {B : Nat} {C : Option Addr} {pl : Pl} (h : PlacesAt w B C pl) (hb : Below B w w') : PlacesAt w' B C pl := fun hl => by
  obtain ⟨b, off, e, hlt, hc⟩ := h hl
  exact ⟨b, off, e, hlt, fun k hk => ⟨(hb.cell (p := ⟨b, _, none⟩) hlt).trans (hc k hk).1, (hb.cell (p := ⟨b, _, none⟩) hlt).trans (hc k hk).2⟩⟩
theorem PlacesAt.more {w : World} {B B' : Nat} {C : Option Addr} {pl : Pl} (h : PlacesAt w B C pl) (hB : B ≤ B') : PlacesAt w B' C pl := fun hl => by
  obtain ⟨b, off, e, hlt, hc⟩ := h hl
  exact ⟨b, off, e, by omega, hc⟩
/-- A basin by value: its eleven fields. -/
structure Bas where
  nm : ByteArray
  a1 : Option Addr
  l1 : Nat
  c1 : Nat
  cl : Int
  P : Option Addr
  cP : Nat
  a4 : Option Addr
  l4 : Nat
  c4 : Nat
  a5 : Option Addr
  l5 : Nat
  c5 : Nat
  a6 : Option Addr
  l6 : Nat
  c6 : Nat
  a7 : Option Addr
  l7 : Nat
  c7 : Nat
  a8 : Option Addr
  l8 : Nat
  c8 : Nat
  a9 : Option Addr
  l9 : Nat
  c9 : Nat
  er : Int
end Go.Proofs.YtkbceeobnbbfbaaDoor

/- make of a slice whose elements are one cell: the run's equation, with the new cells under a name. -/
namespace Go.Proofs.YtkbceeobnbbfbaaDoor
open Go.RowKit

def zeros (z : Value) (n : Nat) : Array Value := Array.replicate n z
theorem zeros_size (z : Value) (n : Nat) : (zeros z n).size = n := by simp [zeros]
theorem zeros_get (z : Value) {n i : Nat} (h : i < n) : (zeros z n)[i]? = some z := by simp [zeros, h]
theorem made_zeros (z : Value) (n : Nat) : madeCells #[z] (n * 1) = zeros z n := by
  apply Array.ext
  · simp [madeCells, zeros]
  · intro i h1 h2
    simp [madeCells, zeros, Nat.mod_one]
theorem run_make1 {P : Program} (t e : TypeId) (i : TypeInfo) (z : Value) (ht : P.underlying t = some (.slice e)) (hi : P.info? e = some i) (hz : i.zero = some z) (hs : i.size = 1) (hc : z.cells = #[z]) (l n : Nat) (hl : l ≤ n) (hb : i.bytes * n ≤ 281474976710656)
    (hn : n ≤ 9223372036854775807) (wx : World) : (Instr.makeSlice t (.int .i64 l) (.int .i64 n)).run P wx = .ok (.slice (some ⟨wx.heap.size, 0, none⟩) l n) (wx.alloc (.cells (zeros z n) e)) := by
  have hb' : (i.bytes : Int) * (n : Int) ≤ 281474976710656 := by
    have h : ((i.bytes * n : Nat) : Int) ≤ 281474976710656 := by omega
    rwa [Int.natCast_mul] at h
  have hr := run_make (P := P) wx t e i z ht hi hz .i64 .i64 l n (by omega) (by omega) hb' (by omega)
  simp only [Int.toNat_natCast, hs, hc] at hr
  rw [hr, made_zeros]
theorem zeros_cell (w : World) (z : Value) (n : Nat) (t : TypeId) {i : Nat} (h : i < n) : (w.alloc (.cells (zeros z n) t)).cell? ⟨w.heap.size, i, none⟩ = some z := by
  rw [World.cell?_alloc_at _ _ _ _ rfl, zeros_get z h]
theorem zeros_free (w : World) (z : Value) (n : Nat) (t : TypeId) (i : Nat) : (w.alloc (.cells (zeros z n) t)).frozen? ⟨w.heap.size, i, none⟩ = false := World.frozen?_alloc_at _ _ _ _ rfl
end Go.Proofs.YtkbceeobnbbfbaaDoor

/- An array of one-cell elements that a call has made, and writes into. -/
namespace Go.Proofs.YtkbceeobnbbfbaaDoor
open Go.RowKit

def Arr (w : World) (g n : Nat) (F : Nat → Value) : Prop := ∀ j, j < n → w.cell? ⟨g, j, none⟩ = some (F j) ∧ w.frozen? ⟨g, j, none⟩ = false
def updF (f : Nat → Value) (u : Nat) (x : Value) : Nat → Value := fun v => if v = u then x else f v
section
variable {w w' : World} {g n : Nat} {F : Nat → Value}
theorem Arr.made (w : World) (z : Value) (n : Nat) (t : TypeId) : Arr (w.alloc (.cells (zeros z n) t)) w.heap.size n (fun _ => z) := fun _ hj => ⟨zeros_cell w z n t hj, zeros_free w z n t _⟩
theorem Arr.keep (h : Arr w g n F) (hk : w'.heap[g]? = w.heap[g]?) : Arr w' g n F := fun j hj =>
  ⟨(World.cell?_of_block (a := ⟨g, j, none⟩) hk).trans (h j hj).1, (World.frozen?_of_block (a := ⟨g, j, none⟩) hk).trans (h j hj).2⟩
theorem Arr.alloc (h : Arr w g n F) (hg : g < w.heap.size) (o : Obj) : Arr (w.alloc o) g n F := h.keep (Below.heap_alloc w o g hg)
theorem Arr.drew (h : Arr w g n F) : Arr w.drew g n F := h
theorem Arr.drewN (h : Arr w g n F) (k : Nat) : Arr (w.drewN k) g n F := h
theorem Arr.far (h : Arr w g n F) {p : Addr} (hp : g ≠ p.block) (u : Value) : Arr (w.setCell p u) g n F := h.keep (Below.heap_setCell w p u g hp)
theorem Arr.below {B : Nat} (h : Arr w g n F) (hb : Below B w w') (hg : g < B) : Arr w' g n F := h.keep (hb.block g hg)
theorem Arr.set (h : Arr w g n F) {i : Nat} (hi : i < n) (x : Value) : Arr (w.setCell ⟨g, i, none⟩ x) g n (updF F i x) := fun j hj => by
  refine ⟨?_, (World.frozen?_setCell _ _ _ _).trans (h j hj).2⟩
  by_cases e : j = i
  · subst e
    simp only [updF, if_pos]
    exact World.cell?_setCell_same _ _ _ (h j hj).1
  · simp only [updF, if_neg e]
    exact (World.cell?_setCell_other _ _ _ _ (fun q => e (by injection q with q1 q2; exact q2.symm))).trans (h j hj).1
theorem Arr.congr {G : Nat → Value} (h : Arr w g n F) (e : ∀ j, j < n → F j = G j) : Arr w g n G := fun j hj => ⟨by rw [← e j hj]; exact (h j hj).1, (h j hj).2⟩
end
end Go.Proofs.YtkbceeobnbbfbaaDoor

/- What the functions of call compute, as plain functions; the laws of them. -/
namespace Go.Proofs.YtkbceeobnbbfbaaDoor.CM
open Go.RowKit

def dRt : Rt := ⟨0, 0, 0, -1, 0, 0, 0, 0, 0⟩
section
variable (pl : Pl) (R : List Rt) (sup : Nat → Int) (ns : Nat) (G : List (Int × Int))
def rtN (i : Nat) : Rt := R.getD i dRt
def rcR (i : Nat) : List Nat := reach pl (rtN R i).place
def rateR (i : Nat) : Int := (rtN R i).rate
def gotG (i : Nat) : Int := (G.getD i (0, 0)).2
def isPl (p : Int) : Bool := decide (0 ≤ p) && decide (p < pl.length)
def thereS (q : Nat) : Int := thereN pl sup (min pl.length ns) q
/-- What is left behind n grants, as the machine reckons. -/
def leftW : Nat → Nat → Int
  | 0, q => thereS pl sup ns q
  | n + 1, q => if q ∈ rcR pl R n ∧ n < G.length then wrap64 (leftW n q - gotG G n) else leftW n q
/-- The last of n rights that has water and reaches a place. -/
def lastW : Nat → Nat → Int
  | 0, _ => -1
  | n + 1, q => if q ∈ rcR pl R n ∧ n < G.length ∧ 0 < gotG G n then (n : Int) else lastW n q
def stopF (i : Nat) : Int := match (rcR pl R i).find? (fun q => decide (leftW pl R sup ns G R.length q ≤ 0) && decide (lastW pl R G R.length q ≤ i)) with | some q => (q : Int) | none => -1
def shortF (i : Nat) : Bool := decide (i < G.length) && (decide (gotG G i < rateR R i) && isPl pl (rtN R i).place)
def wetF (m i : Nat) : List Nat := (List.range m).filter fun j => decide (i ≤ j) && (decide (j < G.length) && decide (0 < gotG G j))
def excL : List (Int × Int) := (List.range R.length).flatMap fun i => if shortF pl R G i && decide (0 ≤ stopF pl R sup ns G i) then (wetF G R.length (i + 1)).map (fun j => ((rtN R i).id, (rtN R j).id)) else []
def lawfulF (i : Nat) : Bool := decide ((G.getD i (0, 0)).1 = (rtN R i).id) && (decide (0 ≤ gotG G i) && (decide (gotG G i ≤ 1125899906842624) && (decide (gotG G i ≤ max 0 (rateR R i)) && (decide (gotG G i = 0) || isPl pl (rtN R i).place))))
def checkF (x : List (Int × Int)) : Bool :=
  decide (G.length = R.length) && ((List.range R.length).all (lawfulF pl R G) && ((List.range pl.length).all (fun q => decide (0 ≤ leftW pl R sup ns G R.length q)) &&
    (List.range R.length).all (fun i => !shortF pl R G i || (decide (0 ≤ stopF pl R sup ns G i) && (wetF G R.length (i + 1)).all (fun j => decide (((rtN R i).id, (rtN R j).id) ∈ x))))))
/-- The day's grants. -/
def dayList : List (Int × Int) := (List.range R.length).map fun i => ((rtN R i).id, dayG (thereS pl sup ns) (rcR pl R) (rateR R) i)
variable {pl R sup ns G}
theorem dayList_len : (dayList pl R sup ns).length = R.length := by simp [dayList]
theorem dayList_got {i : Nat} (hi : i < R.length) : gotG (dayList pl R sup ns) i = dayG (thereS pl sup ns) (rcR pl R) (rateR R) i := by
  simp [gotG, dayList, List.getD_eq_getElem?_getD, hi]
theorem rcR_lt {i q : Nat} (h : q ∈ rcR pl R i) : q < pl.length := reach_lt h
theorem rcR_nil {i : Nat} : rcR pl R i = [] ↔ isPl pl (rtN R i).place = false := by
  unfold rcR isPl
  rw [reach_nil]
  simp only [Bool.and_eq_false_iff, decide_eq_false_iff_not]
  omega
theorem lastW_le {i q : Nat} : ∀ m, lastW pl R G m q ≤ i ↔ ∀ j, i < j → j < m → q ∈ rcR pl R j → j < G.length → gotG G j ≤ 0
  | 0 => ⟨fun _ j _ h => absurd h (Nat.not_lt_zero _), fun _ => by show (-1 : Int) ≤ i; omega⟩
  | m + 1 => by
    have ih := lastW_le (i := i) (q := q) m
    show (if _ then _ else _) ≤ _ ↔ _
    split
    · rename_i g
      constructor
      · intro h j h1 h2 _ _
        omega
      · intro h
        by_cases g2 : m ≤ i
        · omega
        · have := h m (by omega) (by omega) g.1 g.2.1
          omega
    · rename_i g
      rw [ih]
      constructor
      · intro h j h1 h2 h3 h4
        by_cases e : j = m
        · subst e
          rcases Int.lt_or_le 0 (gotG G j) with q | q
          · exact absurd ⟨h3, h4, q⟩ g
          · exact q
        · exact h j h1 (by omega) h3 h4
      · exact fun h j h1 h2 => h j h1 (by omega)
/-- Where all is modest the machine reckons exactly. -/
theorem leftW_exact (hp : posSum sup (min pl.length ns) ≤ 1125899906842624) (hl : G.length = R.length) (hg : ∀ j, j < R.length → 0 ≤ gotG G j ∧ gotG G j ≤ 1125899906842624) (hm : R.length ≤ 1000) :
    ∀ n q, n ≤ R.length → leftW pl R sup ns G n q = leftE (thereS pl sup ns) (rcR pl R) (gotG G) n q ∧ - ((n : Int) * 1125899906842624) ≤ leftW pl R sup ns G n q ∧ leftW pl R sup ns G n q ≤ 1125899906842624
  | 0, q, _ => by
    have := thereN_le (pl := pl) (sup := sup) (min pl.length ns) q hp
    refine ⟨rfl, ?_, ?_⟩
    · show _ ≤ thereS pl sup ns q; unfold thereS; simp; exact this.1
    · show thereS pl sup ns q ≤ _; unfold thereS; omega
  | n + 1, q, hn => by
    obtain ⟨i1, i2, i3⟩ := leftW_exact hp hl hg hm n q (by omega)
    have h1 := hg n (by omega)
    rw [leftE_succ]
    show (if _ then _ else _) = _ ∧ _ ≤ (if _ then _ else _) ∧ (if _ then _ else _) ≤ _
    have e1 : ((n + 1 : Nat) : Int) * 1125899906842624 = (n : Int) * 1125899906842624 + 1125899906842624 := by push_cast; omega
    by_cases g : q ∈ rcR pl R n
    · rw [if_pos ⟨g, by omega⟩, if_pos g]
      have hw : wrap64 (leftW pl R sup ns G n q - gotG G n) = leftW pl R sup ns G n q - gotG G n := IntWalk.wrap64_in _ ⟨by omega, by omega⟩
      rw [hw]
      refine ⟨by rw [i1], by omega, by omega⟩
    · rw [if_neg (fun h => g h.1), if_neg g]
      refine ⟨by rw [i1]; omega, by omega, by omega⟩
theorem stopF_some {i : Nat} : (0 ≤ stopF pl R sup ns G i ↔ ∃ q ∈ rcR pl R i, leftW pl R sup ns G R.length q ≤ 0 ∧ lastW pl R G R.length q ≤ i) ∧
    (∀ k, stopF pl R sup ns G i = k → 0 ≤ k → ∃ q : Nat, k = q ∧ q ∈ rcR pl R i ∧ leftW pl R sup ns G R.length q ≤ 0 ∧ lastW pl R G R.length q ≤ i) := by
  unfold stopF
  cases hf : (rcR pl R i).find? (fun q => decide (leftW pl R sup ns G R.length q ≤ 0) && decide (lastW pl R G R.length q ≤ i)) with
  | none =>
    rw [List.find?_eq_none] at hf
    refine ⟨⟨fun h => by simp at h, fun ⟨q, h1, h2, h3⟩ => absurd (by simp [h2, h3]) (hf q h1)⟩, fun k hk h0 => by subst hk; simp at h0⟩
  | some q =>
    have h1 := List.find?_some hf
    have h2 := List.mem_of_find?_eq_some hf
    simp only [Bool.and_eq_true, decide_eq_true_eq] at h1
    exact ⟨⟨fun _ => ⟨q, h2, h1.1, h1.2⟩, fun _ => by simp⟩, fun k hk _ => ⟨q, hk.symm, h2, h1.1, h1.2⟩⟩
end
end Go.Proofs.YtkbceeobnbbfbaaDoor.CM

/- The laws of call, as plain facts of what its functions compute. -/
namespace Go.Proofs.YtkbceeobnbbfbaaDoor.CM
open Go.RowKit

theorem leftE_congr {there : Nat → Int} {rc : Nat → List Nat} {g h : Nat → Int} : ∀ (n : Nat), (∀ j, j < n → g j = h j) → ∀ q, leftE there rc g n q = leftE there rc h n q
  | 0, _, _ => rfl
  | n + 1, e, q => by rw [leftE_succ, leftE_succ, leftE_congr n (fun j hj => e j (by omega)) q, e n (by omega)]
/-- Supplies of at most MaxVol together, not too many rights. -/
structure Modest (pl : Pl) (R : List Rt) (sup : Nat → Int) (ns : Nat) : Prop where
  sum : posSum sup (min pl.length ns) ≤ 1125899906842624
  few : R.length ≤ 1000
section
variable {pl : Pl} {R : List Rt} {sup : Nat → Int} {ns : Nat} {G : List (Int × Int)}
theorem Modest.there (h : Modest pl R sup ns) (q : Nat) : 0 ≤ thereS pl sup ns q ∧ thereS pl sup ns q ≤ 1125899906842624 := by
  have := thereN_le (pl := pl) (sup := sup) (min pl.length ns) q h.sum
  have := h.sum
  unfold thereS
  omega
theorem Modest.day (h : Modest pl R sup ns) (j : Nat) : 0 ≤ dayG (thereS pl sup ns) (rcR pl R) (rateR R) j ∧ dayG (thereS pl sup ns) (rcR pl R) (rateR R) j ≤ 1125899906842624 := by
  refine ⟨dayG_nn j, ?_⟩
  by_cases hne : rcR pl R j = []
  · unfold dayG lit
    rw [if_pos (by simp [hne])]; omega
  · obtain ⟨q, l, e⟩ := List.exists_cons_of_ne_nil hne
    have hq : q ∈ rcR pl R j := by rw [e]; exact List.mem_cons_self ..
    have h1 := dayG_left (rate := rateR R) (fun p => (h.there p).1) hq
    have h2 := dayL_mono (there := thereS pl sup ns) (rc := rcR pl R) (rate := rateR R) 0 j q
    rw [Nat.zero_add] at h2
    have h3 : dayL (thereS pl sup ns) (rcR pl R) (rateR R) 0 q = thereS pl sup ns q := rfl
    have := (h.there q).2
    omega
theorem Modest.left (h : Modest pl R sup ns) (q : Nat) : leftW pl R sup ns (dayList pl R sup ns) R.length q = dayL (thereS pl sup ns) (rcR pl R) (rateR R) R.length q := by
  rw [(leftW_exact h.sum dayList_len (fun j hj => by rw [dayList_got hj]; exact h.day j) h.few R.length q (Nat.le_refl _)).1, ← leftE_day]
  exact leftE_congr R.length (fun j hj => dayList_got hj) q
theorem shortF_rc {i : Nat} : shortF pl R G i = true ↔ i < G.length ∧ gotG G i < rateR R i ∧ rcR pl R i ≠ [] := by
  unfold shortF
  rw [Bool.and_eq_true, Bool.and_eq_true, decide_eq_true_eq, decide_eq_true_eq]
  have := rcR_nil (pl := pl) (R := R) (i := i)
  cases hq : isPl pl (rtN R i).place
  · simp only [hq, iff_true] at this
    simp [this]
  · simp only [hq, Bool.true_eq_false, iff_false] at this
    simp [this]
/-- In the day's grants each short right has a stop. -/
theorem Modest.stop (h : Modest pl R sup ns) {i : Nat} (hi : i < R.length) (hs : shortF pl R (dayList pl R sup ns) i = true) : 0 ≤ stopF pl R sup ns (dayList pl R sup ns) i := by
  obtain ⟨_, h1, h2⟩ := shortF_rc.1 hs
  rw [dayList_got hi] at h1
  obtain ⟨q, ⟨hq, hz, hd⟩, _⟩ := day_stop (fun p => (h.there p).1) hi h1 h2
  refine stopF_some.1.2 ⟨q, hq, ?_, (lastW_le _).2 fun j j1 j2 j3 _ => ?_⟩
  · rw [h.left, ← leftE_day]; exact hz
  · rw [dayList_got j2]; exact hd j j1 j2 j3
theorem mem_excL {i j : Nat} (hi : i < R.length) (hs : shortF pl R G i = true) (h0 : 0 ≤ stopF pl R sup ns G i) (hj : j ∈ wetF G R.length (i + 1)) : ((rtN R i).id, (rtN R j).id) ∈ excL pl R sup ns G := by
  unfold excL
  rw [List.mem_flatMap]
  refine ⟨i, List.mem_range.2 hi, ?_⟩
  rw [if_pos (by rw [hs, decide_eq_true h0]; rfl)]
  exact List.mem_map.2 ⟨j, hj, rfl⟩
/-- THE DAY'S GRANTS ARE ACCEPTED with all excuses, and whatever more. -/
theorem Modest.accepted (h : Modest pl R sup ns) {x : List (Int × Int)} (hx : ∀ e ∈ excL pl R sup ns (dayList pl R sup ns), e ∈ x) : checkF pl R sup ns (dayList pl R sup ns) x = true := by
  unfold checkF
  rw [Bool.and_eq_true, Bool.and_eq_true, Bool.and_eq_true]
  refine ⟨decide_eq_true dayList_len, ?_, ?_, ?_⟩
  · rw [List.all_eq_true]
    intro i hi
    have hi := List.mem_range.1 hi
    unfold lawfulF
    have h1 := h.day i
    have h2 := dayG_le (there := thereS pl sup ns) (rc := rcR pl R) (rate := rateR R) i
    rw [dayList_got hi]
    have e : ((dayList pl R sup ns).getD i (0, 0)).1 = (rtN R i).id := by simp [dayList, List.getD_eq_getElem?_getD, hi]
    rw [decide_eq_true e, decide_eq_true h1.1, decide_eq_true h1.2, decide_eq_true h2]
    simp only [Bool.true_and]
    cases hq : isPl pl (rtN R i).place
    · have := rcR_nil.2 hq
      unfold dayG lit
      rw [if_pos (by simp [this])]; rfl
    · simp
  · rw [List.all_eq_true]
    intro q _
    rw [h.left]
    exact decide_eq_true (dayL_nn (fun p => (h.there p).1) _ q)
  · rw [List.all_eq_true]
    intro i hi
    have hi := List.mem_range.1 hi
    cases hs : shortF pl R (dayList pl R sup ns) i
    · rfl
    · have h0 := h.stop hi hs
      rw [decide_eq_true h0]
      simp only [Bool.not_true, Bool.false_or, Bool.true_and]
      rw [List.all_eq_true]
      intro j hj
      exact decide_eq_true (hx _ (mem_excL hi hs h0 hj))
/-- ONLY THE DAY'S GRANTS ARE ACCEPTED. -/
theorem Modest.only (h : Modest pl R sup ns) {x : List (Int × Int)} (hc : checkF pl R sup ns G x = true) : G = dayList pl R sup ns := by
  unfold checkF at hc
  rw [Bool.and_eq_true, Bool.and_eq_true, Bool.and_eq_true, decide_eq_true_eq, List.all_eq_true, List.all_eq_true, List.all_eq_true] at hc
  obtain ⟨hl, h1, h2, h3⟩ := hc
  have law : ∀ i, i < R.length → (G.getD i (0, 0)).1 = (rtN R i).id ∧ 0 ≤ gotG G i ∧ gotG G i ≤ 1125899906842624 ∧ gotG G i ≤ max 0 (rateR R i) ∧ (rcR pl R i = [] → gotG G i = 0) := by
    intro i hi
    have := h1 i (List.mem_range.2 hi)
    unfold lawfulF at this
    simp only [Bool.and_eq_true, Bool.or_eq_true, decide_eq_true_eq] at this
    refine ⟨this.1, this.2.1, this.2.2.1, this.2.2.2.1, fun hn => ?_⟩
    have hq := rcR_nil.1 hn
    rcases this.2.2.2.2 with g | g
    · exact g
    · rw [hq] at g; cases g
  have ex := leftW_exact h.sum hl (fun j hj => ⟨(law j hj).2.1, (law j hj).2.2.1⟩) h.few R.length
  have hout : ∀ j, R.length ≤ j → gotG G j = 0 := fun j hj => by
    unfold gotG
    rw [List.getD_eq_getElem?_getD, List.getElem?_eq_none (by omega)]; rfl
  have key := day_only (there := thereS pl sup ns) (rc := rcR pl R) (rate := rateR R) (got := gotG G) (m := R.length) (fun p => (h.there p).1)
    (fun j => by
      by_cases g : j < R.length
      · exact (law j g).2.1
      · rw [hout j (by omega)]; omega)
    (fun j hj => (law j hj).2.2.2.1) (fun j hj => (law j hj).2.2.2.2)
    (fun j hj q hq => by
      have := h2 q (List.mem_range.2 (rcR_lt hq))
      rw [← (ex q (Nat.le_refl _)).1]
      simpa using this)
    (fun i hi g1 g2 => by
      have hs : shortF pl R G i = true := shortF_rc.2 ⟨by omega, g1, g2⟩
      have := h3 i (List.mem_range.2 hi)
      rw [hs] at this
      simp only [Bool.not_true, Bool.false_or, Bool.and_eq_true, decide_eq_true_eq] at this
      obtain ⟨q, hq, hz, hla⟩ := stopF_some.1.1 this.1
      exact ⟨q, hq, by rw [← (ex q (Nat.le_refl _)).1]; exact hz, fun j j1 j2 j3 => (lastW_le _).1 hla j j1 j2 j3 (by omega)⟩)
  apply List.ext_getElem
  · rw [dayList_len]; exact hl
  · intro i h4 h5
    have hi : i < R.length := by omega
    have a1 := (law i hi).1
    have a2 := key i hi
    rw [List.getD_eq_getElem?_getD, List.getElem?_eq_getElem h4] at a1
    unfold gotG at a2
    rw [List.getD_eq_getElem?_getD, List.getElem?_eq_getElem h4] at a2
    simp only [Option.getD_some] at a1 a2
    simp only [dayList, List.getElem_map, List.getElem_range]
    exact Prod.ext a1 a2
/-- Different Ids make different excuses. -/
theorem excL_nodup (hid : ∀ i j, i < R.length → j < R.length → (rtN R i).id = (rtN R j).id → i = j) : (excL pl R sup ns G).Pairwise (· ≠ ·) := by
  unfold excL
  rw [List.pairwise_flatMap]
  have wl : ∀ {i j : Nat}, j ∈ wetF G R.length i → j < R.length := fun hj => List.mem_range.1 (List.mem_filter.1 hj).1
  refine ⟨fun i _ => ?_, ?_⟩
  · split
    · rw [List.pairwise_map]
      have h1 : (wetF G R.length (i + 1)).Pairwise (· < ·) := List.Pairwise.filter _ List.pairwise_lt_range
      refine List.Pairwise.imp_of_mem ?_ h1
      intro a b ha hb hab e
      have := hid a b (wl ha) (wl hb) (congrArg Prod.snd e)
      omega
    · exact List.Pairwise.nil
  · refine List.Pairwise.imp_of_mem ?_ List.pairwise_lt_range
    intro a b ha hb hab x hx y hy e
    split at hx
    · split at hy
      · obtain ⟨c, _, rfl⟩ := List.mem_map.1 hx
        obtain ⟨d, _, rfl⟩ := List.mem_map.1 hy
        have := hid a b (List.mem_range.1 ha) (List.mem_range.1 hb) (congrArg Prod.fst e)
        omega
      · cases hy
    · cases hx
theorem rest_not {α : Type} {l : List α} (h : l.Pairwise (· ≠ ·)) {k : Nat} {x : α} (hk : l[k]? = some x) : x ∉ l.take k ++ l.drop (k + 1) := by
  have hlt := (List.getElem?_eq_some_iff.1 hk).1
  have hx : l[k] = x := (List.getElem?_eq_some_iff.1 hk).2
  intro hm
  rw [List.pairwise_iff_getElem] at h
  rcases List.mem_append.1 hm with q | q
  · obtain ⟨j, hj, e⟩ := List.getElem_of_mem q
    rw [List.length_take] at hj
    rw [List.getElem_take] at e
    exact h j k (by omega) hlt (by omega) (e.trans hx.symm)
  · obtain ⟨j, hj, e⟩ := List.getElem_of_mem q
    rw [List.length_drop] at hj
    rw [List.getElem_drop] at e
    exact h k (k + 1 + j) hlt (by omega) (by omega) (hx.trans e.symm)
/-- NO EXCUSE MAY BE MISSING. -/
theorem needs (hid : ∀ i j, i < R.length → j < R.length → (rtN R i).id = (rtN R j).id → i = j) {k : Nat} (hk : k < (excL pl R sup ns G).length) :
    checkF pl R sup ns G ((excL pl R sup ns G).take k ++ (excL pl R sup ns G).drop (k + 1)) = false := by
  have hx := rest_not (excL_nodup (pl := pl) (sup := sup) (ns := ns) (G := G) hid) (List.getElem?_eq_getElem hk)
  have hm := List.getElem_mem hk
  generalize hrest : (excL pl R sup ns G).take k ++ (excL pl R sup ns G).drop (k + 1) = rest at hx ⊢
  generalize (excL pl R sup ns G)[k] = e at hx hm
  unfold excL at hm
  obtain ⟨i, hi, h2⟩ := List.mem_flatMap.1 hm
  have hi := List.mem_range.1 hi
  split at h2
  · rename_i g
    obtain ⟨j, hj, rfl⟩ := List.mem_map.1 h2
    rw [Bool.and_eq_true] at g
    cases hc : checkF pl R sup ns G rest
    · rfl
    · exfalso
      unfold checkF at hc
      simp only [Bool.and_eq_true, List.all_eq_true] at hc
      have := hc.2.2.2 i (List.mem_range.2 hi)
      rw [g.1] at this
      simp only [Bool.not_true, Bool.false_or, Bool.and_eq_true, List.all_eq_true] at this
      exact hx (by simpa using this.2 j hj)
  · cases h2
/-- THE STOP OF A SHORT RIGHT. -/
theorem Modest.stops (h : Modest pl R sup ns) {i : Nat} (hi : i < R.length) (hs : shortF pl R (dayList pl R sup ns) i = true) :
    ∃ q : Nat, stopF pl R sup ns (dayList pl R sup ns) i = q ∧ q ∈ rcR pl R i ∧ dayL (thereS pl sup ns) (rcR pl R) (rateR R) R.length q = 0 ∧
      ∀ k, i < k → k < R.length → 0 < dayG (thereS pl sup ns) (rcR pl R) (rateR R) k → q ∉ rcR pl R k := by
  obtain ⟨q, e, h1, h2, h3⟩ := stopF_some.2 _ rfl (h.stop hi hs)
  rw [h.left] at h2
  have h4 := dayL_nn (rate := rateR R) (rc := rcR pl R) (fun p => (h.there p).1) R.length q
  refine ⟨q, e, h1, by omega, fun k k1 k2 k3 k4 => ?_⟩
  have := (lastW_le _).1 h3 k k1 k2 k4 (by rw [dayList_len]; exact k2)
  rw [dayList_got k2] at this
  omega
end
end Go.Proofs.YtkbceeobnbbfbaaDoor.CM

