/- What lies in the cells of a basin's parts. (Printed by gen_ty.py.) -/
import Derived.Test.YthoigjkelinjhaaGM
set_option linter.unusedSimpArgs false
set_option linter.unusedVariables false
namespace Go.Proofs.Ythoigjkelinjhaa.RT
open Go.RowKit
namespace BV
/-- A slice's elements, however deep they read. -/
def Sl (w : World) (B : Nat) (e : TypeId) (s : Nat) (C : Option Addr) (len : Nat) : Prop := len ≤ 9223372036854775807 ∧ ∃ m, SlT Try.prog w B m e s C len
section
variable {w w' : World} {B B' : Nat} {e : TypeId} {s : Nat} {C : Option Addr} {len : Nat}
theorem Sl.below (h : Sl w B e s C len) (hb : Below B w w') : Sl w' B e s C len := ⟨h.1, by obtain ⟨m, hm⟩ := h.2; exact ⟨m, hm.below hb⟩⟩
theorem Sl.more (h : Sl w B e s C len) (hB : B ≤ B') : Sl w B' e s C len := ⟨h.1, by obtain ⟨m, hm⟩ := h.2; exact ⟨m, hm.more hB⟩⟩
theorem Sl.up (h : Sl w w.heap.size e s C len) (hb : Below w.heap.size w w') : Sl w' w'.heap.size e s C len := (h.below hb).more hb.size
theorem Sl.of {n : Nat} {t : TypeId} {cs : List Value} (ht : Try.prog.underlying t = some (.slice e)) (hs : Try.prog.cellsOf e = s) (h0 : 0 < s) (h : Okv Try.prog w B n t cs) : ∃ C len cap, cs = [.slice C len cap] ∧ Sl w B e s C len := by
  obtain ⟨m, C, len, cap, h1, h2, h3⟩ := Okv.slice ht hs h0 h
  exact ⟨C, len, cap, h1, h2, m, h3⟩
end
theorem one_of {cs : List Value} {j : Nat} {u : Value} (h : (cs.drop j).take 1 = [u]) : cs[j]? = some u := by
  have := congrArg (fun l => l[0]?) h
  simpa [List.getElem?_take] using this
theorem drop_two {cs : List Value} {i j k : Nat} {u : Value} (h : (((cs.drop i).take k).drop j).take 1 = [u]) : cs[i + j]? = some u := by
  have h1 := congrArg (fun l => l[0]?) h
  simp only [List.getElem?_take, List.getElem?_drop] at h1
  simp at h1
  exact h1.2
theorem list2 {cs : List Value} {a0 a1 : Value} (hl : cs.length = 2) (g0 : cs[0]? = some a0) (g1 : cs[1]? = some a1) : cs = [a0, a1] := by
  match cs, hl with
  | [b0, b1], _ =>
    simp at g0 g1
    subst g0 g1
    rfl
theorem list5 {cs : List Value} {a0 a1 a2 a3 a4 : Value} (hl : cs.length = 5) (g0 : cs[0]? = some a0) (g1 : cs[1]? = some a1) (g2 : cs[2]? = some a2) (g3 : cs[3]? = some a3) (g4 : cs[4]? = some a4) : cs = [a0, a1, a2, a3, a4] := by
  match cs, hl with
  | [b0, b1, b2, b3, b4], _ =>
    simp at g0 g1 g2 g3 g4
    subst g0 g1 g2 g3 g4
    rfl
theorem list7 {cs : List Value} {a0 a1 a2 a3 a4 a5 a6 : Value} (hl : cs.length = 7) (g0 : cs[0]? = some a0) (g1 : cs[1]? = some a1) (g2 : cs[2]? = some a2) (g3 : cs[3]? = some a3) (g4 : cs[4]? = some a4) (g5 : cs[5]? = some a5) (g6 : cs[6]? = some a6) : cs = [a0, a1, a2, a3, a4, a5, a6] := by
  match cs, hl with
  | [b0, b1, b2, b3, b4, b5, b6], _ =>
    simp at g0 g1 g2 g3 g4 g5 g6
    subst g0 g1 g2 g3 g4 g5 g6
    rfl
theorem list12 {cs : List Value} {a0 a1 a2 a3 a4 a5 a6 a7 a8 a9 a10 a11 : Value} (hl : cs.length = 12) (g0 : cs[0]? = some a0) (g1 : cs[1]? = some a1) (g2 : cs[2]? = some a2) (g3 : cs[3]? = some a3) (g4 : cs[4]? = some a4) (g5 : cs[5]? = some a5) (g6 : cs[6]? = some a6) (g7 : cs[7]? = some a7) (g8 : cs[8]? = some a8) (g9 : cs[9]? = some a9) (g10 : cs[10]? = some a10) (g11 : cs[11]? = some a11) : cs = [a0, a1, a2, a3, a4, a5, a6, a7, a8, a9, a10, a11] := by
  match cs, hl with
  | [b0, b1, b2, b3, b4, b5, b6, b7, b8, b9, b10, b11], _ =>
    simp at g0 g1 g2 g3 g4 g5 g6 g7 g8 g9 g10 g11
    subst g0 g1 g2 g3 g4 g5 g6 g7 g8 g9 g10 g11
    rfl
theorem list18 {cs : List Value} {a0 a1 a2 a3 a4 a5 a6 a7 a8 a9 a10 a11 a12 a13 a14 a15 a16 a17 : Value} (hl : cs.length = 18) (g0 : cs[0]? = some a0) (g1 : cs[1]? = some a1) (g2 : cs[2]? = some a2) (g3 : cs[3]? = some a3) (g4 : cs[4]? = some a4) (g5 : cs[5]? = some a5) (g6 : cs[6]? = some a6) (g7 : cs[7]? = some a7) (g8 : cs[8]? = some a8) (g9 : cs[9]? = some a9) (g10 : cs[10]? = some a10) (g11 : cs[11]? = some a11) (g12 : cs[12]? = some a12) (g13 : cs[13]? = some a13) (g14 : cs[14]? = some a14) (g15 : cs[15]? = some a15) (g16 : cs[16]? = some a16) (g17 : cs[17]? = some a17) : cs = [a0, a1, a2, a3, a4, a5, a6, a7, a8, a9, a10, a11, a12, a13, a14, a15, a16, a17] := by
  match cs, hl with
  | [b0, b1, b2, b3, b4, b5, b6, b7, b8, b9, b10, b11, b12, b13, b14, b15, b16, b17], _ =>
    simp at g0 g1 g2 g3 g4 g5 g6 g7 g8 g9 g10 g11 g12 g13 g14 g15 g16 g17
    subst g0 g1 g2 g3 g4 g5 g6 g7 g8 g9 g10 g11 g12 g13 g14 g15 g16 g17
    rfl
structure Pt where
  x : Int
  y : Int
def Pt.cells (p : Pt) : List Value := [.int .i64 p.x, .int .i64 p.y]
def Pt.ok (w : World) (B : Nat) (p : Pt) : Prop := True
theorem fieldsPt : Try.prog.cellsOf 128 = 2 ∧ ∃ fs, Try.prog.underlying 128 = some (.struct fs) ∧ fs.size = 2 ∧ fs.map (fun f => (f.type, f.offset, Try.prog.cellsOf f.type)) = #[(3, 0, 1), (3, 1, 1)] := ⟨by kernel_rfl, _, Try.underlying128, by kernel_rfl, by kernel_rfl⟩
theorem Pt.of {w : World} {B n : Nat} {cs : List Value} (h : Okv Try.prog w B n 128 cs) : ∃ p : Pt, cs = p.cells ∧ p.ok w B := by
  obtain ⟨hc, fs, hu, hsz, hty⟩ := fieldsPt
  obtain ⟨hl, m, hf⟩ := Okv.fields hu h
  rw [hc] at hl
  have key : ∀ j, j < 2 → ∃ t of k, (#[(3, 0, 1), (3, 1, 1)] : Array (Nat × Nat × Nat))[j]? = some (t, of, k) ∧ Okv Try.prog w B m t ((cs.drop of).take k) := fun j hj => by
    have hj2 : fs[j]? = some (fs[j]'(by omega)) := Array.getElem?_eq_getElem _
    refine ⟨_, _, _, ?_, hf j _ hj2⟩
    rw [← hty, Array.getElem?_map, hj2]; rfl
  obtain ⟨t0, o0, k0, e0, q0⟩ := key 0 (by omega)
  simp at e0
  obtain ⟨rfl, rfl, rfl⟩ := e0
  obtain ⟨z0, _, r0⟩ := Okv.int Try.underlying3 q0
  have g0 := one_of r0
  obtain ⟨t1, o1, k1, e1, q1⟩ := key 1 (by omega)
  simp at e1
  obtain ⟨rfl, rfl, rfl⟩ := e1
  obtain ⟨z1, _, r1⟩ := Okv.int Try.underlying3 q1
  have g1 := one_of r1
  refine ⟨⟨z0, z1⟩, ?_, trivial⟩
  exact list2 hl g0 g1
theorem Pt.at_ {w : World} {B len : Nat} {C : Option Addr} (h : Sl w B 128 2 C len) {i : Nat} (hi : i < len) : ∃ (b off : Nat) (p : Pt), C = some ⟨b, off, none⟩ ∧ b < B ∧ p.ok w B ∧ w.cell? ⟨b, off + i * 2, none⟩ = some (.int .i64 p.x) ∧ w.cell? ⟨b, off + i * 2 + 1, none⟩ = some (.int .i64 p.y) := by
  obtain ⟨_, m, hm⟩ := h
  obtain ⟨b, off, e, hb, hc⟩ := hm (by omega)
  obtain ⟨F, h1, h2, h3⟩ := hc i hi
  obtain ⟨p, rfl, hok⟩ := Pt.of h3
  have g : ∀ j u, p.cells[j]? = some u → w.cell? ⟨b, off + i * 2 + j, none⟩ = some u := fun j u hu => by rw [Nat.add_assoc]; exact h2 j u hu
  exact ⟨b, off, p, e, hb, hok, g 0 _ rfl, g 1 _ rfl⟩
structure Ce where
  ix : Int
  ar : Int
def Ce.cells (p : Ce) : List Value := [.int .i64 p.ix, .int .i64 p.ar]
def Ce.ok (w : World) (B : Nat) (p : Ce) : Prop := True
theorem fieldsCe : Try.prog.cellsOf 130 = 2 ∧ ∃ fs, Try.prog.underlying 130 = some (.struct fs) ∧ fs.size = 2 ∧ fs.map (fun f => (f.type, f.offset, Try.prog.cellsOf f.type)) = #[(3, 0, 1), (3, 1, 1)] := ⟨by kernel_rfl, _, Try.underlying130, by kernel_rfl, by kernel_rfl⟩
theorem Ce.of {w : World} {B n : Nat} {cs : List Value} (h : Okv Try.prog w B n 130 cs) : ∃ p : Ce, cs = p.cells ∧ p.ok w B := by
  obtain ⟨hc, fs, hu, hsz, hty⟩ := fieldsCe
  obtain ⟨hl, m, hf⟩ := Okv.fields hu h
  rw [hc] at hl
  have key : ∀ j, j < 2 → ∃ t of k, (#[(3, 0, 1), (3, 1, 1)] : Array (Nat × Nat × Nat))[j]? = some (t, of, k) ∧ Okv Try.prog w B m t ((cs.drop of).take k) := fun j hj => by
    have hj2 : fs[j]? = some (fs[j]'(by omega)) := Array.getElem?_eq_getElem _
    refine ⟨_, _, _, ?_, hf j _ hj2⟩
    rw [← hty, Array.getElem?_map, hj2]; rfl
  obtain ⟨t0, o0, k0, e0, q0⟩ := key 0 (by omega)
  simp at e0
  obtain ⟨rfl, rfl, rfl⟩ := e0
  obtain ⟨z0, _, r0⟩ := Okv.int Try.underlying3 q0
  have g0 := one_of r0
  obtain ⟨t1, o1, k1, e1, q1⟩ := key 1 (by omega)
  simp at e1
  obtain ⟨rfl, rfl, rfl⟩ := e1
  obtain ⟨z1, _, r1⟩ := Okv.int Try.underlying3 q1
  have g1 := one_of r1
  refine ⟨⟨z0, z1⟩, ?_, trivial⟩
  exact list2 hl g0 g1
theorem Ce.at_ {w : World} {B len : Nat} {C : Option Addr} (h : Sl w B 130 2 C len) {i : Nat} (hi : i < len) : ∃ (b off : Nat) (p : Ce), C = some ⟨b, off, none⟩ ∧ b < B ∧ p.ok w B ∧ w.cell? ⟨b, off + i * 2, none⟩ = some (.int .i64 p.ix) ∧ w.cell? ⟨b, off + i * 2 + 1, none⟩ = some (.int .i64 p.ar) := by
  obtain ⟨_, m, hm⟩ := h
  obtain ⟨b, off, e, hb, hc⟩ := hm (by omega)
  obtain ⟨F, h1, h2, h3⟩ := hc i hi
  obtain ⟨p, rfl, hok⟩ := Ce.of h3
  have g : ∀ j u, p.cells[j]? = some u → w.cell? ⟨b, off + i * 2 + j, none⟩ = some u := fun j u hu => by rw [Nat.add_assoc]; exact h2 j u hu
  exact ⟨b, off, p, e, hb, hok, g 0 _ rfl, g 1 _ rfl⟩
structure Tn where
  nm : ByteArray
  place : Int
  flood : Int
  lead : Int
  people : Int
  watch : Int
  quorum : Int
def Tn.cells (p : Tn) : List Value := [.string p.nm, .int .i64 p.place, .int .i64 p.flood, .int .i64 p.lead, .int .i64 p.people, .int .i64 p.watch, .int .i64 p.quorum]
def Tn.ok (w : World) (B : Nat) (p : Tn) : Prop := True
theorem fieldsTn : Try.prog.cellsOf 110 = 7 ∧ ∃ fs, Try.prog.underlying 110 = some (.struct fs) ∧ fs.size = 7 ∧ fs.map (fun f => (f.type, f.offset, Try.prog.cellsOf f.type)) = #[(9, 0, 1), (3, 1, 1), (3, 2, 1), (3, 3, 1), (3, 4, 1), (3, 5, 1), (3, 6, 1)] := ⟨by kernel_rfl, _, Try.underlying110, by kernel_rfl, by kernel_rfl⟩
theorem Tn.of {w : World} {B n : Nat} {cs : List Value} (h : Okv Try.prog w B n 110 cs) : ∃ p : Tn, cs = p.cells ∧ p.ok w B := by
  obtain ⟨hc, fs, hu, hsz, hty⟩ := fieldsTn
  obtain ⟨hl, m, hf⟩ := Okv.fields hu h
  rw [hc] at hl
  have key : ∀ j, j < 7 → ∃ t of k, (#[(9, 0, 1), (3, 1, 1), (3, 2, 1), (3, 3, 1), (3, 4, 1), (3, 5, 1), (3, 6, 1)] : Array (Nat × Nat × Nat))[j]? = some (t, of, k) ∧ Okv Try.prog w B m t ((cs.drop of).take k) := fun j hj => by
    have hj2 : fs[j]? = some (fs[j]'(by omega)) := Array.getElem?_eq_getElem _
    refine ⟨_, _, _, ?_, hf j _ hj2⟩
    rw [← hty, Array.getElem?_map, hj2]; rfl
  obtain ⟨t0, o0, k0, e0, q0⟩ := key 0 (by omega)
  simp at e0
  obtain ⟨rfl, rfl, rfl⟩ := e0
  obtain ⟨z0, _, r0⟩ := Okv.str Try.underlying9 q0
  have g0 := one_of r0
  obtain ⟨t1, o1, k1, e1, q1⟩ := key 1 (by omega)
  simp at e1
  obtain ⟨rfl, rfl, rfl⟩ := e1
  obtain ⟨z1, _, r1⟩ := Okv.int Try.underlying3 q1
  have g1 := one_of r1
  obtain ⟨t2, o2, k2, e2, q2⟩ := key 2 (by omega)
  simp at e2
  obtain ⟨rfl, rfl, rfl⟩ := e2
  obtain ⟨z2, _, r2⟩ := Okv.int Try.underlying3 q2
  have g2 := one_of r2
  obtain ⟨t3, o3, k3, e3, q3⟩ := key 3 (by omega)
  simp at e3
  obtain ⟨rfl, rfl, rfl⟩ := e3
  obtain ⟨z3, _, r3⟩ := Okv.int Try.underlying3 q3
  have g3 := one_of r3
  obtain ⟨t4, o4, k4, e4, q4⟩ := key 4 (by omega)
  simp at e4
  obtain ⟨rfl, rfl, rfl⟩ := e4
  obtain ⟨z4, _, r4⟩ := Okv.int Try.underlying3 q4
  have g4 := one_of r4
  obtain ⟨t5, o5, k5, e5, q5⟩ := key 5 (by omega)
  simp at e5
  obtain ⟨rfl, rfl, rfl⟩ := e5
  obtain ⟨z5, _, r5⟩ := Okv.int Try.underlying3 q5
  have g5 := one_of r5
  obtain ⟨t6, o6, k6, e6, q6⟩ := key 6 (by omega)
  simp at e6
  obtain ⟨rfl, rfl, rfl⟩ := e6
  obtain ⟨z6, _, r6⟩ := Okv.int Try.underlying3 q6
  have g6 := one_of r6
  refine ⟨⟨z0, z1, z2, z3, z4, z5, z6⟩, ?_, trivial⟩
  exact list7 hl g0 g1 g2 g3 g4 g5 g6
theorem Tn.at_ {w : World} {B len : Nat} {C : Option Addr} (h : Sl w B 110 7 C len) {i : Nat} (hi : i < len) : ∃ (b off : Nat) (p : Tn), C = some ⟨b, off, none⟩ ∧ b < B ∧ p.ok w B ∧ w.cell? ⟨b, off + i * 7, none⟩ = some (.string p.nm) ∧ w.cell? ⟨b, off + i * 7 + 1, none⟩ = some (.int .i64 p.place) ∧ w.cell? ⟨b, off + i * 7 + 2, none⟩ = some (.int .i64 p.flood) ∧ w.cell? ⟨b, off + i * 7 + 3, none⟩ = some (.int .i64 p.lead) ∧ w.cell? ⟨b, off + i * 7 + 4, none⟩ = some (.int .i64 p.people) ∧ w.cell? ⟨b, off + i * 7 + 5, none⟩ = some (.int .i64 p.watch) ∧ w.cell? ⟨b, off + i * 7 + 6, none⟩ = some (.int .i64 p.quorum) := by
  obtain ⟨_, m, hm⟩ := h
  obtain ⟨b, off, e, hb, hc⟩ := hm (by omega)
  obtain ⟨F, h1, h2, h3⟩ := hc i hi
  obtain ⟨p, rfl, hok⟩ := Tn.of h3
  have g : ∀ j u, p.cells[j]? = some u → w.cell? ⟨b, off + i * 7 + j, none⟩ = some u := fun j u hu => by rw [Nat.add_assoc]; exact h2 j u hu
  exact ⟨b, off, p, e, hb, hok, g 0 _ rfl, g 1 _ rfl, g 2 _ rfl, g 3 _ rfl, g 4 _ rfl, g 5 _ rfl, g 6 _ rfl⟩
structure Gg where
  nm : ByteArray
  kind : Int
  target : Int
  err : Int
  drift : Int
def Gg.cells (p : Gg) : List Value := [.string p.nm, .int .i64 p.kind, .int .i64 p.target, .int .i64 p.err, .int .i64 p.drift]
def Gg.ok (w : World) (B : Nat) (p : Gg) : Prop := True
theorem fieldsGg : Try.prog.cellsOf 114 = 5 ∧ ∃ fs, Try.prog.underlying 114 = some (.struct fs) ∧ fs.size = 5 ∧ fs.map (fun f => (f.type, f.offset, Try.prog.cellsOf f.type)) = #[(9, 0, 1), (3, 1, 1), (3, 2, 1), (3, 3, 1), (3, 4, 1)] := ⟨by kernel_rfl, _, Try.underlying114, by kernel_rfl, by kernel_rfl⟩
theorem Gg.of {w : World} {B n : Nat} {cs : List Value} (h : Okv Try.prog w B n 114 cs) : ∃ p : Gg, cs = p.cells ∧ p.ok w B := by
  obtain ⟨hc, fs, hu, hsz, hty⟩ := fieldsGg
  obtain ⟨hl, m, hf⟩ := Okv.fields hu h
  rw [hc] at hl
  have key : ∀ j, j < 5 → ∃ t of k, (#[(9, 0, 1), (3, 1, 1), (3, 2, 1), (3, 3, 1), (3, 4, 1)] : Array (Nat × Nat × Nat))[j]? = some (t, of, k) ∧ Okv Try.prog w B m t ((cs.drop of).take k) := fun j hj => by
    have hj2 : fs[j]? = some (fs[j]'(by omega)) := Array.getElem?_eq_getElem _
    refine ⟨_, _, _, ?_, hf j _ hj2⟩
    rw [← hty, Array.getElem?_map, hj2]; rfl
  obtain ⟨t0, o0, k0, e0, q0⟩ := key 0 (by omega)
  simp at e0
  obtain ⟨rfl, rfl, rfl⟩ := e0
  obtain ⟨z0, _, r0⟩ := Okv.str Try.underlying9 q0
  have g0 := one_of r0
  obtain ⟨t1, o1, k1, e1, q1⟩ := key 1 (by omega)
  simp at e1
  obtain ⟨rfl, rfl, rfl⟩ := e1
  obtain ⟨z1, _, r1⟩ := Okv.int Try.underlying3 q1
  have g1 := one_of r1
  obtain ⟨t2, o2, k2, e2, q2⟩ := key 2 (by omega)
  simp at e2
  obtain ⟨rfl, rfl, rfl⟩ := e2
  obtain ⟨z2, _, r2⟩ := Okv.int Try.underlying3 q2
  have g2 := one_of r2
  obtain ⟨t3, o3, k3, e3, q3⟩ := key 3 (by omega)
  simp at e3
  obtain ⟨rfl, rfl, rfl⟩ := e3
  obtain ⟨z3, _, r3⟩ := Okv.int Try.underlying3 q3
  have g3 := one_of r3
  obtain ⟨t4, o4, k4, e4, q4⟩ := key 4 (by omega)
  simp at e4
  obtain ⟨rfl, rfl, rfl⟩ := e4
  obtain ⟨z4, _, r4⟩ := Okv.int Try.underlying3 q4
  have g4 := one_of r4
  refine ⟨⟨z0, z1, z2, z3, z4⟩, ?_, trivial⟩
  exact list5 hl g0 g1 g2 g3 g4
theorem Gg.at_ {w : World} {B len : Nat} {C : Option Addr} (h : Sl w B 114 5 C len) {i : Nat} (hi : i < len) : ∃ (b off : Nat) (p : Gg), C = some ⟨b, off, none⟩ ∧ b < B ∧ p.ok w B ∧ w.cell? ⟨b, off + i * 5, none⟩ = some (.string p.nm) ∧ w.cell? ⟨b, off + i * 5 + 1, none⟩ = some (.int .i64 p.kind) ∧ w.cell? ⟨b, off + i * 5 + 2, none⟩ = some (.int .i64 p.target) ∧ w.cell? ⟨b, off + i * 5 + 3, none⟩ = some (.int .i64 p.err) ∧ w.cell? ⟨b, off + i * 5 + 4, none⟩ = some (.int .i64 p.drift) := by
  obtain ⟨_, m, hm⟩ := h
  obtain ⟨b, off, e, hb, hc⟩ := hm (by omega)
  obtain ⟨F, h1, h2, h3⟩ := hc i hi
  obtain ⟨p, rfl, hok⟩ := Gg.of h3
  have g : ∀ j u, p.cells[j]? = some u → w.cell? ⟨b, off + i * 5 + j, none⟩ = some u := fun j u hu => by rw [Nat.add_assoc]; exact h2 j u hu
  exact ⟨b, off, p, e, hb, hok, g 0 _ rfl, g 1 _ rfl, g 2 _ rfl, g 3 _ rfl, g 4 _ rfl⟩
structure Rd where
  nm : ByteArray
  frm : Int
  to_ : Int
  hours : Int
  flow : Int
  by_ : Int
  limit : Int
def Rd.cells (p : Rd) : List Value := [.string p.nm, .int .i64 p.frm, .int .i64 p.to_, .int .i64 p.hours, .int .i64 p.flow, .int .i64 p.by_, .int .i64 p.limit]
def Rd.ok (w : World) (B : Nat) (p : Rd) : Prop := True
theorem fieldsRd : Try.prog.cellsOf 116 = 7 ∧ ∃ fs, Try.prog.underlying 116 = some (.struct fs) ∧ fs.size = 7 ∧ fs.map (fun f => (f.type, f.offset, Try.prog.cellsOf f.type)) = #[(9, 0, 1), (3, 1, 1), (3, 2, 1), (3, 3, 1), (3, 4, 1), (3, 5, 1), (3, 6, 1)] := ⟨by kernel_rfl, _, Try.underlying116, by kernel_rfl, by kernel_rfl⟩
theorem Rd.of {w : World} {B n : Nat} {cs : List Value} (h : Okv Try.prog w B n 116 cs) : ∃ p : Rd, cs = p.cells ∧ p.ok w B := by
  obtain ⟨hc, fs, hu, hsz, hty⟩ := fieldsRd
  obtain ⟨hl, m, hf⟩ := Okv.fields hu h
  rw [hc] at hl
  have key : ∀ j, j < 7 → ∃ t of k, (#[(9, 0, 1), (3, 1, 1), (3, 2, 1), (3, 3, 1), (3, 4, 1), (3, 5, 1), (3, 6, 1)] : Array (Nat × Nat × Nat))[j]? = some (t, of, k) ∧ Okv Try.prog w B m t ((cs.drop of).take k) := fun j hj => by
    have hj2 : fs[j]? = some (fs[j]'(by omega)) := Array.getElem?_eq_getElem _
    refine ⟨_, _, _, ?_, hf j _ hj2⟩
    rw [← hty, Array.getElem?_map, hj2]; rfl
  obtain ⟨t0, o0, k0, e0, q0⟩ := key 0 (by omega)
  simp at e0
  obtain ⟨rfl, rfl, rfl⟩ := e0
  obtain ⟨z0, _, r0⟩ := Okv.str Try.underlying9 q0
  have g0 := one_of r0
  obtain ⟨t1, o1, k1, e1, q1⟩ := key 1 (by omega)
  simp at e1
  obtain ⟨rfl, rfl, rfl⟩ := e1
  obtain ⟨z1, _, r1⟩ := Okv.int Try.underlying3 q1
  have g1 := one_of r1
  obtain ⟨t2, o2, k2, e2, q2⟩ := key 2 (by omega)
  simp at e2
  obtain ⟨rfl, rfl, rfl⟩ := e2
  obtain ⟨z2, _, r2⟩ := Okv.int Try.underlying3 q2
  have g2 := one_of r2
  obtain ⟨t3, o3, k3, e3, q3⟩ := key 3 (by omega)
  simp at e3
  obtain ⟨rfl, rfl, rfl⟩ := e3
  obtain ⟨z3, _, r3⟩ := Okv.int Try.underlying3 q3
  have g3 := one_of r3
  obtain ⟨t4, o4, k4, e4, q4⟩ := key 4 (by omega)
  simp at e4
  obtain ⟨rfl, rfl, rfl⟩ := e4
  obtain ⟨z4, _, r4⟩ := Okv.int Try.underlying3 q4
  have g4 := one_of r4
  obtain ⟨t5, o5, k5, e5, q5⟩ := key 5 (by omega)
  simp at e5
  obtain ⟨rfl, rfl, rfl⟩ := e5
  obtain ⟨z5, _, r5⟩ := Okv.int Try.underlying3 q5
  have g5 := one_of r5
  obtain ⟨t6, o6, k6, e6, q6⟩ := key 6 (by omega)
  simp at e6
  obtain ⟨rfl, rfl, rfl⟩ := e6
  obtain ⟨z6, _, r6⟩ := Okv.int Try.underlying3 q6
  have g6 := one_of r6
  refine ⟨⟨z0, z1, z2, z3, z4, z5, z6⟩, ?_, trivial⟩
  exact list7 hl g0 g1 g2 g3 g4 g5 g6
theorem Rd.at_ {w : World} {B len : Nat} {C : Option Addr} (h : Sl w B 116 7 C len) {i : Nat} (hi : i < len) : ∃ (b off : Nat) (p : Rd), C = some ⟨b, off, none⟩ ∧ b < B ∧ p.ok w B ∧ w.cell? ⟨b, off + i * 7, none⟩ = some (.string p.nm) ∧ w.cell? ⟨b, off + i * 7 + 1, none⟩ = some (.int .i64 p.frm) ∧ w.cell? ⟨b, off + i * 7 + 2, none⟩ = some (.int .i64 p.to_) ∧ w.cell? ⟨b, off + i * 7 + 3, none⟩ = some (.int .i64 p.hours) ∧ w.cell? ⟨b, off + i * 7 + 4, none⟩ = some (.int .i64 p.flow) ∧ w.cell? ⟨b, off + i * 7 + 5, none⟩ = some (.int .i64 p.by_) ∧ w.cell? ⟨b, off + i * 7 + 6, none⟩ = some (.int .i64 p.limit) := by
  obtain ⟨_, m, hm⟩ := h
  obtain ⟨b, off, e, hb, hc⟩ := hm (by omega)
  obtain ⟨F, h1, h2, h3⟩ := hc i hi
  obtain ⟨p, rfl, hok⟩ := Rd.of h3
  have g : ∀ j u, p.cells[j]? = some u → w.cell? ⟨b, off + i * 7 + j, none⟩ = some u := fun j u hu => by rw [Nat.add_assoc]; exact h2 j u hu
  exact ⟨b, off, p, e, hb, hok, g 0 _ rfl, g 1 _ rfl, g 2 _ rfl, g 3 _ rfl, g 4 _ rfl, g 5 _ rfl, g 6 _ rfl⟩
structure Sh where
  nm : ByteArray
  room : Int
def Sh.cells (p : Sh) : List Value := [.string p.nm, .int .i64 p.room]
def Sh.ok (w : World) (B : Nat) (p : Sh) : Prop := True
theorem fieldsSh : Try.prog.cellsOf 112 = 2 ∧ ∃ fs, Try.prog.underlying 112 = some (.struct fs) ∧ fs.size = 2 ∧ fs.map (fun f => (f.type, f.offset, Try.prog.cellsOf f.type)) = #[(9, 0, 1), (3, 1, 1)] := ⟨by kernel_rfl, _, Try.underlying112, by kernel_rfl, by kernel_rfl⟩
theorem Sh.of {w : World} {B n : Nat} {cs : List Value} (h : Okv Try.prog w B n 112 cs) : ∃ p : Sh, cs = p.cells ∧ p.ok w B := by
  obtain ⟨hc, fs, hu, hsz, hty⟩ := fieldsSh
  obtain ⟨hl, m, hf⟩ := Okv.fields hu h
  rw [hc] at hl
  have key : ∀ j, j < 2 → ∃ t of k, (#[(9, 0, 1), (3, 1, 1)] : Array (Nat × Nat × Nat))[j]? = some (t, of, k) ∧ Okv Try.prog w B m t ((cs.drop of).take k) := fun j hj => by
    have hj2 : fs[j]? = some (fs[j]'(by omega)) := Array.getElem?_eq_getElem _
    refine ⟨_, _, _, ?_, hf j _ hj2⟩
    rw [← hty, Array.getElem?_map, hj2]; rfl
  obtain ⟨t0, o0, k0, e0, q0⟩ := key 0 (by omega)
  simp at e0
  obtain ⟨rfl, rfl, rfl⟩ := e0
  obtain ⟨z0, _, r0⟩ := Okv.str Try.underlying9 q0
  have g0 := one_of r0
  obtain ⟨t1, o1, k1, e1, q1⟩ := key 1 (by omega)
  simp at e1
  obtain ⟨rfl, rfl, rfl⟩ := e1
  obtain ⟨z1, _, r1⟩ := Okv.int Try.underlying3 q1
  have g1 := one_of r1
  refine ⟨⟨z0, z1⟩, ?_, trivial⟩
  exact list2 hl g0 g1
theorem Sh.at_ {w : World} {B len : Nat} {C : Option Addr} (h : Sl w B 112 2 C len) {i : Nat} (hi : i < len) : ∃ (b off : Nat) (p : Sh), C = some ⟨b, off, none⟩ ∧ b < B ∧ p.ok w B ∧ w.cell? ⟨b, off + i * 2, none⟩ = some (.string p.nm) ∧ w.cell? ⟨b, off + i * 2 + 1, none⟩ = some (.int .i64 p.room) := by
  obtain ⟨_, m, hm⟩ := h
  obtain ⟨b, off, e, hb, hc⟩ := hm (by omega)
  obtain ⟨F, h1, h2, h3⟩ := hc i hi
  obtain ⟨p, rfl, hok⟩ := Sh.of h3
  have g : ∀ j u, p.cells[j]? = some u → w.cell? ⟨b, off + i * 2 + j, none⟩ = some u := fun j u hu => by rw [Nat.add_assoc]; exact h2 j u hu
  exact ⟨b, off, p, e, hb, hok, g 0 _ rfl, g 1 _ rfl⟩
structure Bd where
  aL : Option Addr
  lL : Nat
  cL : Nat
  aH : Option Addr
  lH : Nat
  cH : Nat
def Bd.cells (p : Bd) : List Value := [.slice p.aL p.lL p.cL, .slice p.aH p.lH p.cH]
def Bd.ok (w : World) (B : Nat) (p : Bd) : Prop := Sl w B 128 2 p.aL p.lL ∧ Sl w B 128 2 p.aH p.lH
theorem Bd.ok.below {w w' : World} {B : Nat} {p : Bd} (h : p.ok w B) (hb : Below B w w') : p.ok w' B := ⟨h.1.below hb, h.2.below hb⟩
theorem Bd.ok.more {w : World} {B B' : Nat} {p : Bd} (h : p.ok w B) (hB : B ≤ B') : p.ok w B' := ⟨h.1.more hB, h.2.more hB⟩
theorem Bd.ok.up {w w' : World} {p : Bd} (h : p.ok w w.heap.size) (hb : Below w.heap.size w w') : p.ok w' w'.heap.size := (h.below hb).more hb.size
theorem fieldsBd : Try.prog.cellsOf 106 = 2 ∧ ∃ fs, Try.prog.underlying 106 = some (.struct fs) ∧ fs.size = 2 ∧ fs.map (fun f => (f.type, f.offset, Try.prog.cellsOf f.type)) = #[(88, 0, 1), (88, 1, 1)] := ⟨by kernel_rfl, _, Try.underlying106, by kernel_rfl, by kernel_rfl⟩
theorem Bd.of {w : World} {B n : Nat} {cs : List Value} (h : Okv Try.prog w B n 106 cs) : ∃ p : Bd, cs = p.cells ∧ p.ok w B := by
  obtain ⟨hc, fs, hu, hsz, hty⟩ := fieldsBd
  obtain ⟨hl, m, hf⟩ := Okv.fields hu h
  rw [hc] at hl
  have key : ∀ j, j < 2 → ∃ t of k, (#[(88, 0, 1), (88, 1, 1)] : Array (Nat × Nat × Nat))[j]? = some (t, of, k) ∧ Okv Try.prog w B m t ((cs.drop of).take k) := fun j hj => by
    have hj2 : fs[j]? = some (fs[j]'(by omega)) := Array.getElem?_eq_getElem _
    refine ⟨_, _, _, ?_, hf j _ hj2⟩
    rw [← hty, Array.getElem?_map, hj2]; rfl
  obtain ⟨t0, o0, k0, e0, q0⟩ := key 0 (by omega)
  simp at e0
  obtain ⟨rfl, rfl, rfl⟩ := e0
  obtain ⟨C0, l0, c0, r0, s0⟩ := Sl.of (e := 128) (s := 2) Try.underlying88 (by kernel_rfl) (by omega) q0
  have g0 := one_of r0
  obtain ⟨t1, o1, k1, e1, q1⟩ := key 1 (by omega)
  simp at e1
  obtain ⟨rfl, rfl, rfl⟩ := e1
  obtain ⟨C1, l1, c1, r1, s1⟩ := Sl.of (e := 128) (s := 2) Try.underlying88 (by kernel_rfl) (by omega) q1
  have g1 := one_of r1
  refine ⟨⟨C0, l0, c0, C1, l1, c1⟩, ?_, ⟨s0, s1⟩⟩
  exact list2 hl g0 g1
structure Pv where
  nm : ByteArray
  kind : Int
  office : Int
  cap : Int
  alv : Option Addr
  llv : Nat
  clv : Nat
  ast : Option Addr
  lst : Nat
  cst : Nat
  num : Int
  den : Int
  down : Int
  delay : Int
  floor : Int
  arn : Option Addr
  lrn : Nat
  crn : Nat
def Pv.cells (p : Pv) : List Value := [.string p.nm, .int .i64 p.kind, .int .i64 p.office, .int .i64 p.cap, .slice p.alv p.llv p.clv, .slice p.ast p.lst p.cst, .int .i64 p.num, .int .i64 p.den, .int .i64 p.down, .int .i64 p.delay, .int .i64 p.floor, .slice p.arn p.lrn p.crn]
def Pv.ok (w : World) (B : Nat) (p : Pv) : Prop := Sl w B 128 2 p.alv p.llv ∧ Sl w B 3 1 p.ast p.lst ∧ Sl w B 130 2 p.arn p.lrn
theorem Pv.ok.below {w w' : World} {B : Nat} {p : Pv} (h : p.ok w B) (hb : Below B w w') : p.ok w' B := ⟨h.1.below hb, h.2.1.below hb, h.2.2.below hb⟩
theorem Pv.ok.more {w : World} {B B' : Nat} {p : Pv} (h : p.ok w B) (hB : B ≤ B') : p.ok w B' := ⟨h.1.more hB, h.2.1.more hB, h.2.2.more hB⟩
theorem Pv.ok.up {w w' : World} {p : Pv} (h : p.ok w w.heap.size) (hb : Below w.heap.size w w') : p.ok w' w'.heap.size := (h.below hb).more hb.size
theorem fieldsPv : Try.prog.cellsOf 91 = 12 ∧ ∃ fs, Try.prog.underlying 91 = some (.struct fs) ∧ fs.size = 12 ∧ fs.map (fun f => (f.type, f.offset, Try.prog.cellsOf f.type)) = #[(9, 0, 1), (3, 1, 1), (3, 2, 1), (3, 3, 1), (88, 4, 1), (29, 5, 1), (3, 6, 1), (3, 7, 1), (3, 8, 1), (3, 9, 1), (3, 10, 1), (89, 11, 1)] := ⟨by kernel_rfl, _, Try.underlying91, by kernel_rfl, by kernel_rfl⟩
theorem Pv.of {w : World} {B n : Nat} {cs : List Value} (h : Okv Try.prog w B n 91 cs) : ∃ p : Pv, cs = p.cells ∧ p.ok w B := by
  obtain ⟨hc, fs, hu, hsz, hty⟩ := fieldsPv
  obtain ⟨hl, m, hf⟩ := Okv.fields hu h
  rw [hc] at hl
  have key : ∀ j, j < 12 → ∃ t of k, (#[(9, 0, 1), (3, 1, 1), (3, 2, 1), (3, 3, 1), (88, 4, 1), (29, 5, 1), (3, 6, 1), (3, 7, 1), (3, 8, 1), (3, 9, 1), (3, 10, 1), (89, 11, 1)] : Array (Nat × Nat × Nat))[j]? = some (t, of, k) ∧ Okv Try.prog w B m t ((cs.drop of).take k) := fun j hj => by
    have hj2 : fs[j]? = some (fs[j]'(by omega)) := Array.getElem?_eq_getElem _
    refine ⟨_, _, _, ?_, hf j _ hj2⟩
    rw [← hty, Array.getElem?_map, hj2]; rfl
  obtain ⟨t0, o0, k0, e0, q0⟩ := key 0 (by omega)
  simp at e0
  obtain ⟨rfl, rfl, rfl⟩ := e0
  obtain ⟨z0, _, r0⟩ := Okv.str Try.underlying9 q0
  have g0 := one_of r0
  obtain ⟨t1, o1, k1, e1, q1⟩ := key 1 (by omega)
  simp at e1
  obtain ⟨rfl, rfl, rfl⟩ := e1
  obtain ⟨z1, _, r1⟩ := Okv.int Try.underlying3 q1
  have g1 := one_of r1
  obtain ⟨t2, o2, k2, e2, q2⟩ := key 2 (by omega)
  simp at e2
  obtain ⟨rfl, rfl, rfl⟩ := e2
  obtain ⟨z2, _, r2⟩ := Okv.int Try.underlying3 q2
  have g2 := one_of r2
  obtain ⟨t3, o3, k3, e3, q3⟩ := key 3 (by omega)
  simp at e3
  obtain ⟨rfl, rfl, rfl⟩ := e3
  obtain ⟨z3, _, r3⟩ := Okv.int Try.underlying3 q3
  have g3 := one_of r3
  obtain ⟨t4, o4, k4, e4, q4⟩ := key 4 (by omega)
  simp at e4
  obtain ⟨rfl, rfl, rfl⟩ := e4
  obtain ⟨C4, l4, c4, r4, s4⟩ := Sl.of (e := 128) (s := 2) Try.underlying88 (by kernel_rfl) (by omega) q4
  have g4 := one_of r4
  obtain ⟨t5, o5, k5, e5, q5⟩ := key 5 (by omega)
  simp at e5
  obtain ⟨rfl, rfl, rfl⟩ := e5
  obtain ⟨C5, l5, c5, r5, s5⟩ := Sl.of (e := 3) (s := 1) Try.underlying29 (by kernel_rfl) (by omega) q5
  have g5 := one_of r5
  obtain ⟨t6, o6, k6, e6, q6⟩ := key 6 (by omega)
  simp at e6
  obtain ⟨rfl, rfl, rfl⟩ := e6
  obtain ⟨z6, _, r6⟩ := Okv.int Try.underlying3 q6
  have g6 := one_of r6
  obtain ⟨t7, o7, k7, e7, q7⟩ := key 7 (by omega)
  simp at e7
  obtain ⟨rfl, rfl, rfl⟩ := e7
  obtain ⟨z7, _, r7⟩ := Okv.int Try.underlying3 q7
  have g7 := one_of r7
  obtain ⟨t8, o8, k8, e8, q8⟩ := key 8 (by omega)
  simp at e8
  obtain ⟨rfl, rfl, rfl⟩ := e8
  obtain ⟨z8, _, r8⟩ := Okv.int Try.underlying3 q8
  have g8 := one_of r8
  obtain ⟨t9, o9, k9, e9, q9⟩ := key 9 (by omega)
  simp at e9
  obtain ⟨rfl, rfl, rfl⟩ := e9
  obtain ⟨z9, _, r9⟩ := Okv.int Try.underlying3 q9
  have g9 := one_of r9
  obtain ⟨t10, o10, k10, e10, q10⟩ := key 10 (by omega)
  simp at e10
  obtain ⟨rfl, rfl, rfl⟩ := e10
  obtain ⟨z10, _, r10⟩ := Okv.int Try.underlying3 q10
  have g10 := one_of r10
  obtain ⟨t11, o11, k11, e11, q11⟩ := key 11 (by omega)
  simp at e11
  obtain ⟨rfl, rfl, rfl⟩ := e11
  obtain ⟨C11, l11, c11, r11, s11⟩ := Sl.of (e := 130) (s := 2) Try.underlying89 (by kernel_rfl) (by omega) q11
  have g11 := one_of r11
  refine ⟨⟨z0, z1, z2, z3, C4, l4, c4, C5, l5, c5, z6, z7, z8, z9, z10, C11, l11, c11⟩, ?_, ⟨s4, s5, s11⟩⟩
  exact list12 hl g0 g1 g2 g3 g4 g5 g6 g7 g8 g9 g10 g11
theorem Pv.at_ {w : World} {B len : Nat} {C : Option Addr} (h : Sl w B 91 12 C len) {i : Nat} (hi : i < len) : ∃ (b off : Nat) (p : Pv), C = some ⟨b, off, none⟩ ∧ b < B ∧ p.ok w B ∧ w.cell? ⟨b, off + i * 12, none⟩ = some (.string p.nm) ∧ w.cell? ⟨b, off + i * 12 + 1, none⟩ = some (.int .i64 p.kind) ∧ w.cell? ⟨b, off + i * 12 + 2, none⟩ = some (.int .i64 p.office) ∧ w.cell? ⟨b, off + i * 12 + 3, none⟩ = some (.int .i64 p.cap) ∧ w.cell? ⟨b, off + i * 12 + 4, none⟩ = some (.slice p.alv p.llv p.clv) ∧ w.cell? ⟨b, off + i * 12 + 5, none⟩ = some (.slice p.ast p.lst p.cst) ∧ w.cell? ⟨b, off + i * 12 + 6, none⟩ = some (.int .i64 p.num) ∧ w.cell? ⟨b, off + i * 12 + 7, none⟩ = some (.int .i64 p.den) ∧ w.cell? ⟨b, off + i * 12 + 8, none⟩ = some (.int .i64 p.down) ∧ w.cell? ⟨b, off + i * 12 + 9, none⟩ = some (.int .i64 p.delay) ∧ w.cell? ⟨b, off + i * 12 + 10, none⟩ = some (.int .i64 p.floor) ∧ w.cell? ⟨b, off + i * 12 + 11, none⟩ = some (.slice p.arn p.lrn p.crn) := by
  obtain ⟨_, m, hm⟩ := h
  obtain ⟨b, off, e, hb, hc⟩ := hm (by omega)
  obtain ⟨F, h1, h2, h3⟩ := hc i hi
  obtain ⟨p, rfl, hok⟩ := Pv.of h3
  have g : ∀ j u, p.cells[j]? = some u → w.cell? ⟨b, off + i * 12 + j, none⟩ = some u := fun j u hu => by rw [Nat.add_assoc]; exact h2 j u hu
  exact ⟨b, off, p, e, hb, hok, g 0 _ rfl, g 1 _ rfl, g 2 _ rfl, g 3 _ rfl, g 4 _ rfl, g 5 _ rfl, g 6 _ rfl, g 7 _ rfl, g 8 _ rfl, g 9 _ rfl, g 10 _ rfl, g 11 _ rfl⟩
structure Lk where
  nm : ByteArray
  kind : Int
  frm : Int
  to_ : Int
  art : Option Addr
  lrt : Nat
  crt : Nat
  aL : Option Addr
  lL : Nat
  cL : Nat
  aH : Option Addr
  lH : Nat
  cH : Nat
  positions : Int
  speed : Int
  leak : Int
  crest : Int
  num : Int
  den : Int
  prime : Int
  brk : Int
  bnum : Int
  bden : Int
  delay : Int
def Lk.cells (p : Lk) : List Value := [.string p.nm, .int .i64 p.kind, .int .i64 p.frm, .int .i64 p.to_, .slice p.art p.lrt p.crt, .slice p.aL p.lL p.cL, .slice p.aH p.lH p.cH, .int .i64 p.positions, .int .i64 p.speed, .int .i64 p.leak, .int .i64 p.crest, .int .i64 p.num, .int .i64 p.den, .int .i64 p.prime, .int .i64 p.brk, .int .i64 p.bnum, .int .i64 p.bden, .int .i64 p.delay]
def Lk.ok (w : World) (B : Nat) (p : Lk) : Prop := Sl w B 128 2 p.art p.lrt ∧ Sl w B 128 2 p.aL p.lL ∧ Sl w B 128 2 p.aH p.lH
theorem Lk.ok.below {w w' : World} {B : Nat} {p : Lk} (h : p.ok w B) (hb : Below B w w') : p.ok w' B := ⟨h.1.below hb, h.2.1.below hb, h.2.2.below hb⟩
theorem Lk.ok.more {w : World} {B B' : Nat} {p : Lk} (h : p.ok w B) (hB : B ≤ B') : p.ok w B' := ⟨h.1.more hB, h.2.1.more hB, h.2.2.more hB⟩
theorem Lk.ok.up {w w' : World} {p : Lk} (h : p.ok w w.heap.size) (hb : Below w.heap.size w w') : p.ok w' w'.heap.size := (h.below hb).more hb.size
theorem fieldsLk : Try.prog.cellsOf 108 = 18 ∧ ∃ fs, Try.prog.underlying 108 = some (.struct fs) ∧ fs.size = 17 ∧ fs.map (fun f => (f.type, f.offset, Try.prog.cellsOf f.type)) = #[(9, 0, 1), (3, 1, 1), (3, 2, 1), (3, 3, 1), (88, 4, 1), (106, 5, 2), (3, 7, 1), (3, 8, 1), (3, 9, 1), (3, 10, 1), (3, 11, 1), (3, 12, 1), (3, 13, 1), (3, 14, 1), (3, 15, 1), (3, 16, 1), (3, 17, 1)] := ⟨by kernel_rfl, _, Try.underlying108, by kernel_rfl, by kernel_rfl⟩
theorem Lk.of {w : World} {B n : Nat} {cs : List Value} (h : Okv Try.prog w B n 108 cs) : ∃ p : Lk, cs = p.cells ∧ p.ok w B := by
  obtain ⟨hc, fs, hu, hsz, hty⟩ := fieldsLk
  obtain ⟨hl, m, hf⟩ := Okv.fields hu h
  rw [hc] at hl
  have key : ∀ j, j < 17 → ∃ t of k, (#[(9, 0, 1), (3, 1, 1), (3, 2, 1), (3, 3, 1), (88, 4, 1), (106, 5, 2), (3, 7, 1), (3, 8, 1), (3, 9, 1), (3, 10, 1), (3, 11, 1), (3, 12, 1), (3, 13, 1), (3, 14, 1), (3, 15, 1), (3, 16, 1), (3, 17, 1)] : Array (Nat × Nat × Nat))[j]? = some (t, of, k) ∧ Okv Try.prog w B m t ((cs.drop of).take k) := fun j hj => by
    have hj2 : fs[j]? = some (fs[j]'(by omega)) := Array.getElem?_eq_getElem _
    refine ⟨_, _, _, ?_, hf j _ hj2⟩
    rw [← hty, Array.getElem?_map, hj2]; rfl
  obtain ⟨t0, o0, k0, e0, q0⟩ := key 0 (by omega)
  simp at e0
  obtain ⟨rfl, rfl, rfl⟩ := e0
  obtain ⟨z0, _, r0⟩ := Okv.str Try.underlying9 q0
  have g0 := one_of r0
  obtain ⟨t1, o1, k1, e1, q1⟩ := key 1 (by omega)
  simp at e1
  obtain ⟨rfl, rfl, rfl⟩ := e1
  obtain ⟨z1, _, r1⟩ := Okv.int Try.underlying3 q1
  have g1 := one_of r1
  obtain ⟨t2, o2, k2, e2, q2⟩ := key 2 (by omega)
  simp at e2
  obtain ⟨rfl, rfl, rfl⟩ := e2
  obtain ⟨z2, _, r2⟩ := Okv.int Try.underlying3 q2
  have g2 := one_of r2
  obtain ⟨t3, o3, k3, e3, q3⟩ := key 3 (by omega)
  simp at e3
  obtain ⟨rfl, rfl, rfl⟩ := e3
  obtain ⟨z3, _, r3⟩ := Okv.int Try.underlying3 q3
  have g3 := one_of r3
  obtain ⟨t4, o4, k4, e4, q4⟩ := key 4 (by omega)
  simp at e4
  obtain ⟨rfl, rfl, rfl⟩ := e4
  obtain ⟨C4, l4, c4, r4, s4⟩ := Sl.of (e := 128) (s := 2) Try.underlying88 (by kernel_rfl) (by omega) q4
  have g4 := one_of r4
  obtain ⟨t5, o5, k5, e5, q5⟩ := key 5 (by omega)
  simp at e5
  obtain ⟨rfl, rfl, rfl⟩ := e5
  obtain ⟨pb, eb, ob⟩ := Bd.of q5
  have g5 : cs[5]? = some (.slice pb.aL pb.lL pb.cL) := by
    have := congrArg (fun l => l[0]?) eb
    simpa [Bd.cells, List.getElem?_take, List.getElem?_drop] using this
  have g6 : cs[6]? = some (.slice pb.aH pb.lH pb.cH) := by
    have := congrArg (fun l => l[1]?) eb
    simpa [Bd.cells, List.getElem?_take, List.getElem?_drop] using this
  obtain ⟨t6, o6, k6, e6, q6⟩ := key 6 (by omega)
  simp at e6
  obtain ⟨rfl, rfl, rfl⟩ := e6
  obtain ⟨z6, _, r6⟩ := Okv.int Try.underlying3 q6
  have g7 := one_of r6
  obtain ⟨t7, o7, k7, e7, q7⟩ := key 7 (by omega)
  simp at e7
  obtain ⟨rfl, rfl, rfl⟩ := e7
  obtain ⟨z7, _, r7⟩ := Okv.int Try.underlying3 q7
  have g8 := one_of r7
  obtain ⟨t8, o8, k8, e8, q8⟩ := key 8 (by omega)
  simp at e8
  obtain ⟨rfl, rfl, rfl⟩ := e8
  obtain ⟨z8, _, r8⟩ := Okv.int Try.underlying3 q8
  have g9 := one_of r8
  obtain ⟨t9, o9, k9, e9, q9⟩ := key 9 (by omega)
  simp at e9
  obtain ⟨rfl, rfl, rfl⟩ := e9
  obtain ⟨z9, _, r9⟩ := Okv.int Try.underlying3 q9
  have g10 := one_of r9
  obtain ⟨t10, o10, k10, e10, q10⟩ := key 10 (by omega)
  simp at e10
  obtain ⟨rfl, rfl, rfl⟩ := e10
  obtain ⟨z10, _, r10⟩ := Okv.int Try.underlying3 q10
  have g11 := one_of r10
  obtain ⟨t11, o11, k11, e11, q11⟩ := key 11 (by omega)
  simp at e11
  obtain ⟨rfl, rfl, rfl⟩ := e11
  obtain ⟨z11, _, r11⟩ := Okv.int Try.underlying3 q11
  have g12 := one_of r11
  obtain ⟨t12, o12, k12, e12, q12⟩ := key 12 (by omega)
  simp at e12
  obtain ⟨rfl, rfl, rfl⟩ := e12
  obtain ⟨z12, _, r12⟩ := Okv.int Try.underlying3 q12
  have g13 := one_of r12
  obtain ⟨t13, o13, k13, e13, q13⟩ := key 13 (by omega)
  simp at e13
  obtain ⟨rfl, rfl, rfl⟩ := e13
  obtain ⟨z13, _, r13⟩ := Okv.int Try.underlying3 q13
  have g14 := one_of r13
  obtain ⟨t14, o14, k14, e14, q14⟩ := key 14 (by omega)
  simp at e14
  obtain ⟨rfl, rfl, rfl⟩ := e14
  obtain ⟨z14, _, r14⟩ := Okv.int Try.underlying3 q14
  have g15 := one_of r14
  obtain ⟨t15, o15, k15, e15, q15⟩ := key 15 (by omega)
  simp at e15
  obtain ⟨rfl, rfl, rfl⟩ := e15
  obtain ⟨z15, _, r15⟩ := Okv.int Try.underlying3 q15
  have g16 := one_of r15
  obtain ⟨t16, o16, k16, e16, q16⟩ := key 16 (by omega)
  simp at e16
  obtain ⟨rfl, rfl, rfl⟩ := e16
  obtain ⟨z16, _, r16⟩ := Okv.int Try.underlying3 q16
  have g17 := one_of r16
  refine ⟨⟨z0, z1, z2, z3, C4, l4, c4, pb.aL, pb.lL, pb.cL, pb.aH, pb.lH, pb.cH, z6, z7, z8, z9, z10, z11, z12, z13, z14, z15, z16⟩, ?_, ⟨s4, ob.1, ob.2⟩⟩
  exact list18 hl g0 g1 g2 g3 g4 g5 g6 g7 g8 g9 g10 g11 g12 g13 g14 g15 g16 g17
theorem Lk.at_ {w : World} {B len : Nat} {C : Option Addr} (h : Sl w B 108 18 C len) {i : Nat} (hi : i < len) : ∃ (b off : Nat) (p : Lk), C = some ⟨b, off, none⟩ ∧ b < B ∧ p.ok w B ∧ w.cell? ⟨b, off + i * 18, none⟩ = some (.string p.nm) ∧ w.cell? ⟨b, off + i * 18 + 1, none⟩ = some (.int .i64 p.kind) ∧ w.cell? ⟨b, off + i * 18 + 2, none⟩ = some (.int .i64 p.frm) ∧ w.cell? ⟨b, off + i * 18 + 3, none⟩ = some (.int .i64 p.to_) ∧ w.cell? ⟨b, off + i * 18 + 4, none⟩ = some (.slice p.art p.lrt p.crt) ∧ w.cell? ⟨b, off + i * 18 + 5, none⟩ = some (.slice p.aL p.lL p.cL) ∧ w.cell? ⟨b, off + i * 18 + 6, none⟩ = some (.slice p.aH p.lH p.cH) ∧ w.cell? ⟨b, off + i * 18 + 7, none⟩ = some (.int .i64 p.positions) ∧ w.cell? ⟨b, off + i * 18 + 8, none⟩ = some (.int .i64 p.speed) ∧ w.cell? ⟨b, off + i * 18 + 9, none⟩ = some (.int .i64 p.leak) ∧ w.cell? ⟨b, off + i * 18 + 10, none⟩ = some (.int .i64 p.crest) ∧ w.cell? ⟨b, off + i * 18 + 11, none⟩ = some (.int .i64 p.num) ∧ w.cell? ⟨b, off + i * 18 + 12, none⟩ = some (.int .i64 p.den) ∧ w.cell? ⟨b, off + i * 18 + 13, none⟩ = some (.int .i64 p.prime) ∧ w.cell? ⟨b, off + i * 18 + 14, none⟩ = some (.int .i64 p.brk) ∧ w.cell? ⟨b, off + i * 18 + 15, none⟩ = some (.int .i64 p.bnum) ∧ w.cell? ⟨b, off + i * 18 + 16, none⟩ = some (.int .i64 p.bden) ∧ w.cell? ⟨b, off + i * 18 + 17, none⟩ = some (.int .i64 p.delay) := by
  obtain ⟨_, m, hm⟩ := h
  obtain ⟨b, off, e, hb, hc⟩ := hm (by omega)
  obtain ⟨F, h1, h2, h3⟩ := hc i hi
  obtain ⟨p, rfl, hok⟩ := Lk.of h3
  have g : ∀ j u, p.cells[j]? = some u → w.cell? ⟨b, off + i * 18 + j, none⟩ = some u := fun j u hu => by rw [Nat.add_assoc]; exact h2 j u hu
  exact ⟨b, off, p, e, hb, hok, g 0 _ rfl, g 1 _ rfl, g 2 _ rfl, g 3 _ rfl, g 4 _ rfl, g 5 _ rfl, g 6 _ rfl, g 7 _ rfl, g 8 _ rfl, g 9 _ rfl, g 10 _ rfl, g 11 _ rfl, g 12 _ rfl, g 13 _ rfl, g 14 _ rfl, g 15 _ rfl, g 16 _ rfl, g 17 _ rfl⟩
theorem int_at {w : World} {B len : Nat} {C : Option Addr} (h : Sl w B 3 1 C len) {i : Nat} (hi : i < len) : ∃ (b off : Nat) (z : Int), C = some ⟨b, off, none⟩ ∧ b < B ∧ w.cell? ⟨b, off + i, none⟩ = some (.int .i64 z) := by
  obtain ⟨_, m, hm⟩ := h
  obtain ⟨b, off, e, hb, hc⟩ := hm (by omega)
  obtain ⟨F, h1, h2, h3⟩ := hc i hi
  obtain ⟨z, _, rfl⟩ := Okv.int Try.underlying3 h3
  exact ⟨b, off, z, e, hb, by have := h2 0 _ rfl; simpa using this⟩
theorem str_at {w : World} {B len : Nat} {C : Option Addr} (h : Sl w B 9 1 C len) {i : Nat} (hi : i < len) : ∃ (b off : Nat) (z : ByteArray), C = some ⟨b, off, none⟩ ∧ b < B ∧ w.cell? ⟨b, off + i, none⟩ = some (.string z) := by
  obtain ⟨_, m, hm⟩ := h
  obtain ⟨b, off, e, hb, hc⟩ := hm (by omega)
  obtain ⟨F, h1, h2, h3⟩ := hc i hi
  obtain ⟨z, _, rfl⟩ := Okv.str Try.underlying9 h3
  exact ⟨b, off, z, e, hb, by have := h2 0 _ rfl; simpa using this⟩
end BV
end Go.Proofs.Ythoigjkelinjhaa.RT
