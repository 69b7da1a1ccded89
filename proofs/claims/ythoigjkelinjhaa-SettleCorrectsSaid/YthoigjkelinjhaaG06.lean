/- Joined of: MapX MapB. -/
import Derived.Maps.Own
import Derived.Laws.StructEq
import Derived.WideKeyEntry
import Derived.Test.YthoigjkelinjhaaMem
/- A map that the call has made, as a list of pairs in the order in which its keys came: what a look-up answers, and what a store leaves; keys of an integer kind, and structs of integers. -/
set_option linter.unusedSimpArgs false
set_option linter.unusedVariables false
namespace Go.Proofs.Ythoigjkelinjhaa
open Go Go.RowKit Go.ChangeMaps

section
variable {α β : Type} [DecidableEq α]
/-- Where a key stands, and what is there. -/
def findE (x : α) : List α → List MapEntry → Nat → Option (Nat × Value)
  | k :: ks, e :: es, i => if x = k then some (i, e.val) else findE x ks es (i + 1)
  | _, _, _ => none
/-- What is needed of the keys: they read as f says. -/
structure KeyX (P : Program) (k : TypeId) (f : α → Value) : Prop where
  check : ∀ em x w, (Instr.checkKey em 10000 k (f x)).run P w = .ok () w
  find : ∀ x w (es : List MapEntry) (ks : List α), es.map (·.key) = ks.map f → (Instr.findKey k (f x) es).run P w = .ok (findE x ks es 0) w
  stays : ∀ x w, (Instr.keyThatStays (f x) (f x)).run P w = .ok (f x) w
theorem int_keyX {P : Program} {k : TypeId} (hk : P.underlying k = some (.int .i64)) : KeyX P k (fun x : Int => Value.int .i64 x) where
  check em x w := by
    have h : ∀ n, (Instr.checkKey em (n + 1) k (.int .i64 x)).run P w = .ok () w := fun n => by simp [Instr.checkKey, run_underlying hk]
    exact h 9999
  find x w es ks h := by
    have key : ∀ (es : List MapEntry) (ks : List Int) (i : Nat), es.map (·.key) = ks.map (fun x : Int => Value.int .i64 x) → Instr.findNow (.int .i64) (.int .i64 x) es i = some (findE x ks es i) := by
      intro es
      induction es with
      | nil => intro ks i h; cases ks <;> first | rfl | simp at h
      | cons e es ih =>
        intro ks i h
        cases ks with
        | nil => simp at h
        | cons a ks =>
          simp only [List.map_cons, List.cons.injEq] at h
          have ih := ih ks (i + 1) h.2
          unfold Instr.findNow findE
          rw [h.1]
          by_cases g : x = a
          · subst g; simp [Instr.sameNow]
          · have g1 : (x == a) = false := by simpa using g
            simp [Instr.sameNow, g1, g, ih]
    have := key es ks 0 h
    simp [Instr.findKey, run_underlying hk, this]
  stays x w := by simp [Instr.keyThatStays, Instr.sameBits]
theorem struct_keyX {P : Program} {k : TypeId} {fs : Array Field} {f : α → Value} (hk : P.underlying k = some (.struct fs)) (hc : ∀ em x w, (Instr.checkKey em 10000 k (f x)).run P w = .ok () w) (he : ∀ x y w, (Op.equal k (f x) (f y)).run P w = .ok (decide (x = y)) w)
    (hb : ∀ x, Instr.sameBits 10000 (f x) (f x) = true) : KeyX P k f where
  check := hc
  find x w es ks h := by
    have key : ∀ (es : List MapEntry) (ks : List α) (i : Nat), es.map (·.key) = ks.map f → (Instr.findAsking k (f x) es i).run P w = .ok (findE x ks es i) w := by
      intro es
      induction es with
      | nil => intro ks i h; cases ks <;> first | rfl | simp at h
      | cons e es ih =>
        intro ks i h
        cases ks with
        | nil => simp at h
        | cons a ks =>
          simp only [List.map_cons, List.cons.injEq] at h
          have ih := ih ks (i + 1) h.2
          unfold Instr.findAsking findE
          rw [h.1, Sem.run_bind, he, Result.andThen_ok]
          by_cases g : x = a
          · simp [g]
          · simp [g, ih]
    have h2 := key es ks 0 h
    cases es with
    | nil =>
      have : findE x ks [] 0 = none := by cases ks <;> rfl
      rw [this]
      simp [Instr.findKey, run_underlying hk, Instr.findNow]
    | cons e es =>
      have h3 : Instr.findNow (.struct fs) (f x) (e :: es) 0 = none := by unfold Instr.findNow; simp [Instr.sameNow]
      simp only [Instr.findKey, Sem.run_bind, run_underlying hk, Result.andThen_ok, h3]
      exact h2
  stays x w := by simp [Instr.keyThatStays, hb]

/-- Block b is a map that reads as the pairs m. -/
def MapX (w : World) (b : Nat) (f : α → Value) (g : β → Value) (m : List (α × β)) : Prop :=
  ∃ es clock, w.heap[b]? = some (.map es clock) ∧ es.toList.map (fun e => (e.key, e.val)) = m.map (fun p => (f p.1, g p.2))
def getX (m : List (α × β)) (x : α) : Option β := (m.find? (fun p => decide (x = p.1))).map (·.2)
def putX : List (α × β) → α → β → List (α × β)
  | [], x, y => [(x, y)]
  | p :: m, x, y => if x = p.1 then (x, y) :: m else p :: putX m x y
section
variable {w w1 : World} {b : Nat} {f : α → Value} {g : β → Value} {m : List (α × β)}
omit [DecidableEq α] in
theorem MapX.made (w : World) (f : α → Value) (g : β → Value) : MapX (w.alloc (.map #[] 0)) w.heap.size f g [] := ⟨#[], 0, heap_alloc_new w _, rfl⟩
omit [DecidableEq α] in
theorem MapX.keep (h : MapX w b f g m) (e : w1.heap[b]? = w.heap[b]?) : MapX w1 b f g m := by
  obtain ⟨es, c, h1, h2⟩ := h
  exact ⟨es, c, e.trans h1, h2⟩
omit [DecidableEq α] in
theorem MapX.below {B : Nat} (h : MapX w b f g m) (hb : Below B w w1) (hlt : b < B) : MapX w1 b f g m := h.keep (hb.block b hlt)
omit [DecidableEq α] in
theorem MapX.far (h : MapX w b f g m) {p : Addr} (hp : b ≠ p.block) (u : Value) : MapX (w.setCell p u) b f g m := h.keep (Below.heap_setCell w p u b hp)
omit [DecidableEq α] in
theorem MapX.lt (h : MapX w b f g m) : b < w.heap.size := by
  obtain ⟨es, c, h1, _⟩ := h
  exact (Array.getElem?_eq_some_iff.1 h1).1
theorem findE_get (x : α) : ∀ (m : List (α × β)) (es : List MapEntry) (i : Nat), es.map (fun e => (e.key, e.val)) = m.map (fun p => (f p.1, g p.2)) →
    (findE x (m.map (·.1)) es i).map (·.2) = (getX m x).map g
  | [], [], _, _ => rfl
  | [], _ :: _, _, h => by simp at h
  | _ :: _, [], _, h => by simp at h
  | p :: m, e :: es, i, h => by
    simp only [List.map_cons, List.cons.injEq, Prod.mk.injEq] at h
    have ih := findE_get x m es (i + 1) h.2
    simp only [List.map_cons, findE, getX, List.find?_cons]
    by_cases q : x = p.1
    · simp [q, h.1.2]
    · simp only [q, if_false, decide_false]
      exact ih
omit [DecidableEq α] in
theorem keys_of {m : List (α × β)} {es : List MapEntry} (h : es.map (fun e => (e.key, e.val)) = m.map (fun p => (f p.1, g p.2))) : es.map (·.key) = (m.map (·.1)).map f := by
  have := congrArg (List.map Prod.fst) h
  simpa [List.map_map, Function.comp_def] using this
theorem MapX.lookup {P : Program} {t k e : TypeId} (h : MapX w b f g m) (K : KeyX P k f) (ht : P.underlying t = some (.map k e)) {z : Value} (hz : (zeroValue e).run P w = .ok z w) (x : α) :
    (Instr.lookup t (.map (some b)) (f x) false).run P w = .ok (((getX m x).map g).getD z) w := by
  obtain ⟨es, c, h1, h2⟩ := h
  have hf := K.find x w es.toList (m.map (·.1)) (keys_of h2)
  have hg := findE_get (f := f) (g := g) x m es.toList 0 h2
  cases hq : findE x (m.map (·.1)) es.toList 0 with
  | none =>
    rw [hq] at hf hg
    have hg : (getX m x).map g = none := hg.symm
    simp [Instr.lookup, run_underlying ht, MapKept.run_getObj_map h1, K.check, hf, hz, hg, Result.andThen]
  | some q =>
    rw [hq] at hf hg
    have hg : (getX m x).map g = some q.2 := hg.symm
    simp [Instr.lookup, run_underlying ht, MapKept.run_getObj_map h1, K.check, hf, hg, Result.andThen]
theorem MapX.lookup_ok {P : Program} {t k e : TypeId} (h : MapX w b f g m) (K : KeyX P k f) (ht : P.underlying t = some (.map k e)) {z : Value} (hz : (zeroValue e).run P w = .ok z w) (x : α) :
    (Instr.lookup t (.map (some b)) (f x) true).run P w = .ok (.tuple #[((getX m x).map g).getD z, .bool (getX m x).isSome]) w := by
  obtain ⟨es, c, h1, h2⟩ := h
  have hf := K.find x w es.toList (m.map (·.1)) (keys_of h2)
  have hg := findE_get (f := f) (g := g) x m es.toList 0 h2
  cases hq : findE x (m.map (·.1)) es.toList 0 with
  | none =>
    rw [hq] at hf hg
    have hg : (getX m x).map g = none := hg.symm
    have hi : (getX m x).isSome = false := by cases hx : getX m x <;> simp [hx] at hg ⊢
    simp [Instr.lookup, run_underlying ht, MapKept.run_getObj_map h1, K.check, hf, hz, hg, hi, Result.andThen]
  | some q =>
    rw [hq] at hf hg
    have hg : (getX m x).map g = some q.2 := hg.symm
    have hi : (getX m x).isSome = true := by cases hx : getX m x <;> simp [hx] at hg ⊢
    simp [Instr.lookup, run_underlying ht, MapKept.run_getObj_map h1, K.check, hf, hg, hi, Result.andThen]
theorem findE_put (x : α) (y : β) : ∀ (m : List (α × β)) (es : List MapEntry) (i : Nat), es.map (fun e => (e.key, e.val)) = m.map (fun p => (f p.1, g p.2)) →
    (findE x (m.map (·.1)) es i = none ∧ putX m x y = m ++ [(x, y)]) ∨
    ∃ (j : Nat) (e0 : MapEntry), findE x (m.map (·.1)) es i = some (i + j, e0.val) ∧ es[j]? = some e0 ∧ e0.key = f x ∧ ∀ e1 : MapEntry, e1.key = f x → e1.val = g y → (es.set j e1).map (fun e => (e.key, e.val)) = (putX m x y).map (fun p => (f p.1, g p.2))
  | [], [], _, _ => .inl ⟨rfl, rfl⟩
  | [], _ :: _, _, h => by simp at h
  | _ :: _, [], _, h => by simp at h
  | p :: m, e :: es, i, h => by
    simp only [List.map_cons, List.cons.injEq, Prod.mk.injEq] at h
    have ih := findE_put x y m es (i + 1) h.2
    simp only [List.map_cons, findE, putX]
    by_cases q : x = p.1
    · rw [if_pos q, if_pos q]
      refine .inr ⟨0, e, rfl, rfl, by rw [h.1.1, q], fun e1 h1 h2 => ?_⟩
      simp only [List.set_cons_zero, List.map_cons, h1, h2, h.2]
    · rw [if_neg q, if_neg q]
      rcases ih with ⟨h1, h2⟩ | ⟨j, e0, h1, h2, h3, h4⟩
      · exact .inl ⟨h1, by rw [h2]; rfl⟩
      · refine .inr ⟨j + 1, e0, by rw [h1]; congr 2; omega, by simpa using h2, h3, fun e1 g1 g2 => ?_⟩
        simp only [List.set_cons_succ, List.map_cons, h4 e1 g1 g2, h.1.1, h.1.2]
theorem MapX.update {P : Program} {t k e : TypeId} (h : MapX w b f g m) (K : KeyX P k f) (ht : P.underlying t = some (.map k e)) (x : α) (y : β) :
    ∃ w', (Instr.mapUpdate t (.map (some b)) (f x) (g y)).run P w = .ok () w' ∧ MapX w' b f g (putX m x y) ∧ w.grownBy w' (some b) := by
  obtain ⟨es, c, h1, h2⟩ := h
  have hf := K.find x w es.toList (m.map (·.1)) (keys_of h2)
  rcases findE_put x y m es.toList 0 h2 with ⟨q1, q2⟩ | ⟨j, e0, q1, q2, q3, q4⟩
  · rw [q1] at hf
    refine ⟨setBlock w b (.map (es.push ⟨f x, g y, c⟩) (c + 1)), ?_, ⟨_, _, heap_setBlock_same h1 _, ?_⟩, ⟨rfl, rfl, rfl, by simp [setBlock], fun i _ hi => heap_setBlock_other h1 _ (fun e => hi (by rw [e]))⟩⟩
    · simp [Instr.mapUpdate, run_underlying ht, MapKept.run_getObj_map h1, K.check, hf, MapKept.run_setObj_map _ h1, Result.andThen, setBlock]
    · rw [q2, Array.toList_push, List.map_append, List.map_append, h2]; rfl
  · rw [q1] at hf
    have hj : es[j]? = some e0 := by simpa using q2
    have hlist : (es.modify j (fun e' => { e' with key := f x, val := g y })).toList = es.toList.set j { e0 with key := f x, val := g y } := by rw [Array.toList_modify, modify_eq_set _ _ _ _ q2]
    refine ⟨setBlock w b (.map (es.modify j fun e' => { e' with key := f x, val := g y }) c), ?_, ⟨_, _, heap_setBlock_same h1 _, ?_⟩, ⟨rfl, rfl, rfl, by simp [setBlock], fun i _ hi => heap_setBlock_other h1 _ (fun e => hi (by rw [e]))⟩⟩
    · simp [Instr.mapUpdate, run_underlying ht, MapKept.run_getObj_map h1, K.check, hf, hj, q3, K.stays, MapKept.run_setObj_map _ h1, Result.andThen, setBlock]
    · rw [hlist]; exact q4 _ rfl rfl
end
/-- A store into the map, at the operation. -/
theorem wpList_putX {P : Program} (w : World) {ops : Array Oper} {rest : List Oper} {o : Oper} {a : Act} {Q : Exit → Act → World → Prop}
    (hg : o.guard = none) (mo xo vo : Operand) (t : TypeId) (hop : o.op = Op.mapUpdate t mo xo vo) (k e : TypeId) {f : α → Value} {g : β → Value} (K : KeyX P k f) (ht : P.underlying t = some (.map k e)) (b : Nat) (m : List (α × β))
    (hm : a.eval mo = .map (some b)) (hown : MapX w b f g m) (x : α) (y : β) (hx : a.eval xo = f x) (hv : a.eval vo = g y)
    (hK : ∀ w', MapX w' b f g (putX m x y) → w.grownBy w' (some b) → wpList P ops Q rest (a.put o.dst undef) w') : wpList P ops Q (o :: rest) a w := by
  refine wpList_plain hg fun K' hK' => ?_
  obtain ⟨w', hrun, r1, r2⟩ := hown.update K ht x y
  unfold Oper.wp
  simp [execOp, hop, hm, hx, hv, hrun, Result.andThen]
  exact hK' _ _ (hK w' r1 r2)
theorem getX_nil (x : α) : getX ([] : List (α × β)) x = none := rfl
theorem getX_put (x z : α) (y : β) : ∀ m : List (α × β), getX (putX m x y) z = if z = x then some y else getX m z
  | [] => by
    unfold putX getX
    by_cases h : z = x <;> simp [h]
  | p :: m => by
    have ih := getX_put x z y m
    unfold putX
    by_cases h : x = p.1
    · rw [if_pos h]
      unfold getX
      simp only [List.find?_cons]
      by_cases g : z = x
      · simp [g]
      · have g2 : ¬ z = p.1 := fun e => g (by rw [e, h])
        simp [g, g2]
    · rw [if_neg h]
      unfold getX at ih ⊢
      simp only [List.find?_cons]
      by_cases g : z = p.1
      · have g2 : ¬ z = x := fun e => h (by rw [← e, g])
        simp [g, g2]
        intro e; exact absurd e.symm h
      · simp only [g, decide_false]
        exact ih
end
end Go.Proofs.Ythoigjkelinjhaa

/- A map that the call has made, with the stamps of its entries: for m[k] += n (an entry is asked for, and stored to later). -/
namespace Go.Proofs.Ythoigjkelinjhaa
open Go Go.RowKit Go.ChangeMaps Go.WideElems
section
variable {α β : Type} [DecidableEq α]
structure MapB (w : World) (b : Nat) (f : α → Value) (g : β → Value) (m : List (α × β)) (es : Array MapEntry) (clock : Nat) : Prop where
  hb : w.heap[b]? = some (.map es clock)
  hm : es.toList.map (fun e => (e.key, e.val)) = m.map (fun p => (f p.1, g p.2))
  old : ∀ e ∈ es.toList, e.born < clock
  nd : (es.toList.map (·.born)).Nodup
def MapS (w : World) (b : Nat) (f : α → Value) (g : β → Value) (m : List (α × β)) : Prop := ∃ es clock, MapB w b f g m es clock
section
variable {w w1 : World} {b : Nat} {f : α → Value} {g : β → Value} {m : List (α × β)}
omit [DecidableEq α] in
theorem MapS.toX (h : MapS w b f g m) : MapX w b f g m := by
  obtain ⟨es, c, h⟩ := h
  exact ⟨es, c, h.hb, h.hm⟩
omit [DecidableEq α] in
theorem MapS.made (w : World) (f : α → Value) (g : β → Value) : MapS (w.alloc (.map #[] 0)) w.heap.size f g [] := ⟨#[], 0, heap_alloc_new w _, rfl, by simp, by simp⟩
omit [DecidableEq α] in
theorem MapS.keep (h : MapS w b f g m) (e : w1.heap[b]? = w.heap[b]?) : MapS w1 b f g m := by
  obtain ⟨es, c, h⟩ := h
  exact ⟨es, c, e.trans h.hb, h.hm, h.old, h.nd⟩
omit [DecidableEq α] in
theorem MapS.below {B : Nat} (h : MapS w b f g m) (hb : Below B w w1) (hlt : b < B) : MapS w1 b f g m := h.keep (hb.block b hlt)
omit [DecidableEq α] in
theorem MapS.lt (h : MapS w b f g m) : b < w.heap.size := h.toX.lt
theorem getX_snoc_new {m : List (α × β)} {x : α} {y : β} (h : getX m x = none) : getX (m ++ [(x, y)]) x = some y := by
  unfold getX at h ⊢
  have h1 : m.find? (fun p => decide (x = p.1)) = none := by
    cases e : m.find? (fun p => decide (x = p.1)) with
    | none => rfl
    | some q => rw [e] at h; cases h
  rw [List.find?_append, h1]
  simp
theorem MapS.entry {P : Program} {t k e : TypeId} (h : MapS w b f g m) (K : KeyX P k f) (ht : P.underlying t = some (.map k e)) {z : β} (hz : ∀ u : World, (zeroValue e).run P u = .ok (g z) u) (x : α) :
    ∃ (w1 : World) (st : Nat) (m1 : List (α × β)), (Instr.mapEntry t (.map (some b)) (f x)).run P w = .ok (.tuple #[g ((getX m x).getD z), goInt st]) w1 ∧ w.grownBy w1 (some b) ∧ w1.heap.size = w.heap.size ∧ MapX w1 b f g m1 ∧ getX m1 x = some ((getX m x).getD z) ∧
      ∀ (w2 : World) (y : β), w2.heap[b]? = w1.heap[b]? → ∃ w3, (Instr.entryStore t (.map (some b)) (goInt st) (g y)).run P w2 = .ok () w3 ∧ MapS w3 b f g (putX m x y) ∧ w2.grownBy w3 (some b) := by
  obtain ⟨es, clock, h1, h2, h3, h4⟩ := h
  have hf := K.find x w es.toList (m.map (·.1)) (keys_of h2)
  have hg := findE_get (f := f) (g := g) x m es.toList 0 h2
  have hgrow : ∀ (w0 : World) (o : Obj) {es0 c0}, w0.heap[b]? = some (.map es0 c0) → w0.grownBy (setBlock w0 b o) (some b) := fun w0 o _ _ hb => ⟨rfl, rfl, rfl, by simp [setBlock], fun i _ hi => heap_setBlock_other hb o (fun q => hi (by rw [q]))⟩
  cases hq : findE x (m.map (·.1)) es.toList 0 with
  | none =>
    rw [hq] at hf hg
    have hn : getX m x = none := by cases hx : getX m x with | none => rfl | some q => rw [hx] at hg; cases hg
    have hnd : ((es.push ⟨f x, g z, clock⟩).toList.map (·.born)).Nodup := by
      simp only [Array.toList_push, List.map_append, List.map_cons, List.map_nil]
      refine List.nodup_append.2 ⟨h4, by simp, fun a ha c hc e1 => ?_⟩
      simp only [List.mem_singleton] at hc
      obtain ⟨q, hq, rfl⟩ := List.mem_map.1 ha
      have := h3 q hq
      omega
    have hold : ∀ v : Value, ∀ e ∈ (es.push ⟨f x, v, clock⟩).toList, e.born < clock + 1 := fun v e he => by
      rw [Array.toList_push, List.mem_append] at he
      rcases he with q | q
      · have := h3 e q; omega
      · simp at q; subst q; show clock < clock + 1; omega
    refine ⟨setBlock w b (.map (es.push ⟨f x, g z, clock⟩) (clock + 1)), clock, m ++ [(x, z)], ?_, hgrow w _ h1, by simp [setBlock], ⟨_, _, heap_setBlock_same h1 _, ?_⟩, ?_, fun w2 y hw2 => ?_⟩
    · rw [hn]
      simp [Instr.mapEntry, run_underlying ht, MapKept.run_getObj_map h1, K.check, hf, hz, MapKept.run_setObj_map _ h1, Result.andThen, setBlock]
    · rw [Array.toList_push, List.map_append, List.map_append, h2]; rfl
    · rw [hn]; exact getX_snoc_new hn
    · rw [heap_setBlock_same h1 _] at hw2
      have hidx : (es.push ⟨f x, g z, clock⟩).findIdx? (fun e => ((e.born : Nat) : Int) == ((clock : Nat) : Int)) = some es.size := by
        rw [findIdx_arr]
        exact findIdx_born (e0 := ⟨f x, g z, clock⟩) hnd (by simp)
      have hmod : (es.push ⟨f x, g z, clock⟩).modify es.size (fun e => { e with val := g y }) = es.push ⟨f x, g y, clock⟩ := by
        apply Array.ext'
        rw [Array.toList_modify, Array.toList_push, Array.toList_push, ← Array.length_toList, modify_last]
      refine ⟨setBlock w2 b (.map (es.push ⟨f x, g y, clock⟩) (clock + 1)), ?_, ⟨_, _, heap_setBlock_same hw2 _, ?_, hold (g y), ?_⟩, hgrow w2 _ hw2⟩
      · simp [Instr.entryStore, MapKept.run_getObj_map hw2, asInt, asIntOf, goInt, hidx, hmod, MapKept.run_setObj_map _ hw2, Result.andThen, setBlock]
      · have hp : putX m x y = m ++ [(x, y)] := by
          rcases findE_put (f := f) (g := g) x y m es.toList 0 h2 with ⟨_, q2⟩ | ⟨j, e0, q1, _⟩
          · exact q2
          · rw [hq] at q1; cases q1
        rw [hp, Array.toList_push, List.map_append, List.map_append, h2]; rfl
      · have : (es.push ⟨f x, g y, clock⟩).toList.map (·.born) = (es.push ⟨f x, g z, clock⟩).toList.map (·.born) := by simp
        rw [this]; exact hnd
  | some q =>
    obtain ⟨i, v⟩ := q
    rw [hq] at hf hg
    obtain ⟨y0, hy0, hv⟩ : ∃ y0, getX m x = some y0 ∧ v = g y0 := by
      cases hx : getX m x with
      | none => rw [hx] at hg; cases hg
      | some y0 => rw [hx] at hg; exact ⟨y0, rfl, by simpa using hg⟩
    subst hv
    obtain ⟨j, e0, hj, hk, hv0, hset⟩ : ∃ (j : Nat) (e0 : MapEntry), i = j ∧ es.toList[j]? = some e0 ∧ (e0.key = f x ∧ e0.val = g y0) ∧ ∀ y (e1 : MapEntry), e1.key = f x → e1.val = g y → (es.toList.set j e1).map (fun e => (e.key, e.val)) = (putX m x y).map (fun p => (f p.1, g p.2)) := by
      rcases findE_put (f := f) (g := g) x y0 m es.toList 0 h2 with ⟨q1, _⟩ | ⟨j, e0, q1, q2, q3, _⟩
      · rw [hq] at q1; cases q1
      · rw [hq] at q1
        injection q1 with q1
        injection q1 with a1 a2
        refine ⟨j, e0, by omega, q2, ⟨q3, a2.symm⟩, fun y => ?_⟩
        rcases findE_put (f := f) (g := g) x y m es.toList 0 h2 with ⟨p1, _⟩ | ⟨j', e0', p1, p2, p3, p4⟩
        · rw [hq] at p1; cases p1
        · rw [hq] at p1
          injection p1 with p1
          injection p1 with b1 b2
          obtain rfl : j' = j := by omega
          exact p4
    subst hj
    have hj : es[i]? = some e0 := by simpa using hk
    have hsame : es.modify i (fun e => { e with key := f x }) = es := by
      apply Array.ext'
      rw [Array.toList_modify, modify_eq_set _ _ _ _ hk]
      have : ({ e0 with key := f x } : MapEntry) = e0 := by rw [← hv0.1]
      rw [this]
      exact set_self _ _ _ hk
    have hsb : setBlock w b (.map es clock) = w := by
      unfold setBlock
      have : w.heap.setIfInBounds b (.map es clock) = w.heap := by
        apply Array.ext_getElem?
        intro i
        rw [Array.getElem?_setIfInBounds]
        split
        · rename_i hi; subst hi; rw [h1]; split <;> simp_all
        · rfl
      rw [this]
    refine ⟨w, e0.born, m, ?_, ⟨rfl, rfl, rfl, Nat.le_refl _, fun _ _ _ => rfl⟩, rfl, ⟨es, clock, h1, h2⟩, by rw [hy0]; rfl, fun w2 y hw2 => ?_⟩
    · rw [hy0]
      have hkey := hv0.1
      simp [Instr.mapEntry, run_underlying ht, MapKept.run_getObj_map h1, K.check, hf, hj, hkey, K.stays, hsame, MapKept.run_setObj_map _ h1, Result.andThen]
      exact hsb
    · rw [h1] at hw2
      have hidx : es.findIdx? (fun e => ((e.born : Nat) : Int) == ((e0.born : Nat) : Int)) = some i := by
        rw [findIdx_arr]; exact findIdx_born h4 hk
      have hlist : (es.modify i (fun e => { e with val := g y })).toList = es.toList.set i { e0 with val := g y } := by rw [Array.toList_modify, modify_eq_set _ _ _ _ hk]
      have hborn : (es.modify i (fun e => { e with val := g y })).toList.map (·.born) = es.toList.map (·.born) := by
        rw [hlist, List.map_set]
        exact set_self _ _ _ (by rw [List.getElem?_map, hk]; rfl)
      refine ⟨setBlock w2 b (.map (es.modify i fun e => { e with val := g y }) clock), ?_, ⟨_, _, heap_setBlock_same hw2 _, ?_, fun e he => ?_, by rw [hborn]; exact h4⟩, hgrow w2 _ hw2⟩
      · simp [Instr.entryStore, MapKept.run_getObj_map hw2, asInt, asIntOf, goInt, hidx, MapKept.run_setObj_map _ hw2, Result.andThen, setBlock]
      · rw [hlist]; exact hset y _ hv0.1 rfl
      · have : e.born ∈ es.toList.map (·.born) := by rw [← hborn]; exact List.mem_map.2 ⟨e, he, rfl⟩
        obtain ⟨q, hq, e1⟩ := List.mem_map.1 this
        rw [← e1]; exact h3 q hq
end
end
end Go.Proofs.Ythoigjkelinjhaa

