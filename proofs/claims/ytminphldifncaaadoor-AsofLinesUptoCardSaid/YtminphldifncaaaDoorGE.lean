/- A map whose elements are rows of structs of one's own: the entry, the row grown, the store. (As GX, at any element.) -/
import Derived.Test.YtminphldifncaaaDoorMapX
import Derived.Test.YtminphldifncaaaDoorRowK
import Derived.WideKeyEntry
set_option linter.unusedSimpArgs false
set_option linter.unusedVariables false
namespace Go.Proofs.YtminphldifncaaaDoor
open Go Go.RowKit Go.ChangeMaps Go.WideElems

section
variable {α : Type} [DecidableEq α] {β : Type} {enc : β → List Value} {kk : Nat}
theorem findE_spec (x : α) : ∀ (ks : List α) (es : List MapEntry) (i : Nat), es.length = ks.length →
    (findE x ks es i = none ∧ x ∉ ks) ∨ ∃ (j : Nat) (e : MapEntry), findE x ks es i = some (i + j, e.val) ∧ es[j]? = some e ∧ ks[j]? = some x
  | [], [], _, _ => .inl ⟨rfl, by simp⟩
  | [], _ :: _, _, h => by simp at h
  | _ :: _, [], _, h => by simp at h
  | k :: ks, e :: es, i, h => by
    unfold findE
    by_cases q : x = k
    · subst q
      rw [if_pos rfl]
      exact .inr ⟨0, e, rfl, rfl, rfl⟩
    · rw [if_neg q]
      rcases findE_spec x ks es (i + 1) (by simpa using h) with ⟨h1, h2⟩ | ⟨j, e0, h1, h2, h3⟩
      · exact .inl ⟨h1, by simp [q, h2]⟩
      · exact .inr ⟨j + 1, e0, by rw [h1]; congr 2; omega, by simpa using h2, by simpa using h3⟩

/-- Block b is a map from keys to rows of integers, no two of them in one block. -/
structure GrpE (w : World) (base b : Nat) (f : α → Value) (enc : β → List Value) (kk : Nat) (te : TypeId) (es : Array MapEntry) (clock : Nat) (m : List (α × List β)) : Prop where
  hb : w.heap[b]? = some (.map es clock)
  hbb : b < base
  len : es.size = m.length
  key : es.toList.map (·.key) = (m.map (·.1)).map f
  row : ∀ (i : Nat) (e : MapEntry) (p : α × List β), es[i]? = some e → m[i]? = some p → w.ownsRow base te kk e.val p.2.length (p.2.flatMap enc)
  old : ∀ e ∈ es.toList, e.born < clock
  nd : (es.toList.map (·.born)).Nodup
  apart : ∀ (i j : Nat) (ei ej : MapEntry) (g : Nat), es[i]? = some ei → es[j]? = some ej → i ≠ j → ei.val.ownBlock = some g → ej.val.ownBlock ≠ some g
variable {w w1 w2 : World} {base b : Nat} {f : α → Value} {te : TypeId} {es : Array MapEntry} {clock : Nat} {m : List (α × List β)}
omit [DecidableEq α] in
theorem GrpE.made (w : World) (f : α → Value) (te : TypeId) : GrpE (w.alloc (.map #[] 0)) (w.heap.size + 1) w.heap.size f enc kk te #[] 0 [] :=
  ⟨heap_alloc_new w _, Nat.lt_succ_self _, rfl, rfl, fun i e p h => by simp at h, fun e h => by simp at h, List.nodup_nil, fun i j ei ej g h => by simp at h⟩
omit [DecidableEq α] in
theorem GrpE.lt (h : GrpE w base b f enc kk te es clock m) : b < w.heap.size := (Array.getElem?_eq_some_iff.1 h.hb).1
omit [DecidableEq α] in
theorem GrpE.val_lt (h : GrpE w base b f enc kk te es clock m) {i g : Nat} {e : MapEntry} (he : es[i]? = some e) (hg : e.val.ownBlock = some g) : base ≤ g ∧ g < w.heap.size := by
  have hi : i < m.length := by rw [← h.len]; exact (Array.getElem?_eq_some_iff.1 he).1
  exact (h.row i e _ he (List.getElem?_eq_getElem hi)).lt g hg
omit [DecidableEq α] in
theorem GrpE.below (h : GrpE w base b f enc kk te es clock m) (hb : Below w.heap.size w w1) : GrpE w1 base b f enc kk te es clock m :=
  ⟨(hb.block b h.lt).trans h.hb, h.hbb, h.len, h.key, fun i e p h1 h2 => row_below (h.row i e p h1 h2) hb, h.old, h.nd, h.apart⟩
omit [DecidableEq α] in
theorem setBlock_self {o : Obj} (h : w.heap[b]? = some o) : setBlock w b o = w := by
  unfold setBlock
  have : w.heap.setIfInBounds b o = w.heap := by
    apply Array.ext_getElem?
    intro i
    rw [Array.getElem?_setIfInBounds]
    split
    · rename_i hi; subst hi; rw [h]; split <;> simp_all
    · rfl
  rw [this]
omit [DecidableEq α] in
theorem own_set {n : Nat} {v : Value} {xs : List Value} {es0 : Array MapEntry} {c0 : Nat} (hb0 : w.heap[b]? = some (.map es0 c0)) (h : w.ownsRow base te kk v n xs) (hbb : b < base) (o : Obj) : (setBlock w b o).ownsRow base te kk v n xs := by
  refine h.kept (row := some b) ⟨rfl, rfl, rfl, by simp [setBlock], fun i _ hi => heap_setBlock_other hb0 _ (fun e => hi (by rw [e]))⟩ ?_
  rcases h.2 with ⟨rfl, _⟩ | ⟨g, cap, cur, rfl, hb, _, _⟩
  · exact .inl rfl
  · refine .inr ?_
    simp only [Value.ownBlock]
    intro e
    injection e with e
    omega
/-- The entry of a key: it is there afterwards, and its row is handed out. -/
theorem GrpE.entry {P : Program} {t k E : TypeId} (h : GrpE w base b f enc kk te es clock m) (K : KeyX P k f) (ht : P.underlying t = some (.map k E)) (hz : ∀ u : World, (zeroValue E).run P u = .ok (.slice none 0 0) u) (x : α) :
    ∃ (es1 : Array MapEntry) (clock1 i : Nat) (e1 : MapEntry) (L : List β) (m1 : List (α × List β)), (Instr.mapEntry t (.map (some b)) (f x)).run P w = .ok (.tuple #[e1.val, goInt e1.born]) (setBlock w b (.map es1 clock1)) ∧
      GrpE (setBlock w b (.map es1 clock1)) base b f enc kk te es1 clock1 m1 ∧ es1[i]? = some e1 ∧ m1[i]? = some (x, L) ∧ ((m1 = m) ∨ (x ∉ m.map (·.1) ∧ L = [] ∧ m1 = m ++ [(x, [])])) ∧ (es[i]? = some e1 ∨ e1.val = .slice none 0 0) := by
  have hf := K.find x w es.toList (m.map (·.1)) h.key
  rcases findE_spec x (m.map (·.1)) es.toList 0 (by simp [h.len]) with ⟨q1, q2⟩ | ⟨j, e0, q1, q2, q3⟩
  · rw [q1] at hf
    refine ⟨es.push ⟨f x, .slice none 0 0, clock⟩, clock + 1, es.size, ⟨f x, .slice none 0 0, clock⟩, [], m ++ [(x, [])], ?_, ?_, by simp, by simp [h.len], .inr ⟨q2, rfl, rfl⟩, .inr rfl⟩
    · simp [Instr.mapEntry, run_underlying ht, MapKept.run_getObj_map h.hb, K.check, hf, hz, MapKept.run_setObj_map _ h.hb, Result.andThen, setBlock]
    · refine ⟨heap_setBlock_same h.hb _, h.hbb, by simp [h.len], by simp [h.key], fun i e p he hp => ?_, fun e he => ?_, ?_, fun i j ei ej g hi hj hij hg => ?_⟩
      · rw [Array.getElem?_push] at he
        split at he
        · rename_i hi
          injection he with he
          subst he
          have hl := h.len
          rw [List.getElem?_append_right (by omega)] at hp
          have : i - m.length = 0 := by omega
          rw [this] at hp
          simp at hp
          subst hp
          exact own_set h.hb (World.ownsRow_nil _ _ _ _) h.hbb _
        · have hi : i < m.length := by rw [← h.len]; exact (Array.getElem?_eq_some_iff.1 he).1
          rw [List.getElem?_append_left hi] at hp
          exact own_set h.hb (h.row i e p he hp) h.hbb _
      · rw [Array.toList_push, List.mem_append] at he
        rcases he with q | q
        · have := h.old e q; omega
        · simp at q; subst q; show clock < clock + 1; omega
      · rw [Array.toList_push, List.map_append]
        refine List.nodup_append.2 ⟨h.nd, by simp, fun a ha c hc e1 => ?_⟩
        simp at hc
        obtain ⟨e, he, rfl⟩ := List.mem_map.1 ha
        have := h.old e he
        omega
      · rw [Array.getElem?_push] at hi hj
        split at hi
        · injection hi with hi; subst hi; simp [Value.ownBlock] at hg
        · split at hj
          · injection hj with hj; subst hj; simp [Value.ownBlock]
          · exact h.apart i j ei ej g hi hj hij hg
  · rw [q1] at hf
    have hj : es[j]? = some e0 := by simpa using q2
    have hk : e0.key = f x := by
      have e1 := congrArg (fun l => l[j]?) h.key
      simp only [List.getElem?_map, Array.getElem?_toList, hj, q2] at e1
      rw [List.getElem?_map] at q3
      cases hm : m[j]? with
      | none => rw [hm] at q3; simp at q3
      | some p => rw [hm] at q3 e1; simp at q3 e1; rw [e1, q3]
    have hsame : es.modify j (fun e => { e with key := f x }) = es := by
      apply Array.ext'
      rw [Array.toList_modify, modify_eq_set _ _ _ _ q2]
      have : ({ e0 with key := f x } : MapEntry) = e0 := by rw [← hk]
      rw [this]
      exact set_self _ _ _ q2
    obtain ⟨p, hp⟩ : ∃ p, m[j]? = some p := ⟨_, List.getElem?_eq_getElem (by rw [← h.len]; exact (Array.getElem?_eq_some_iff.1 hj).1)⟩
    have hpx : p.1 = x := by rw [List.getElem?_map, hp] at q3; simpa using q3
    have hsb : setBlock w b (.map es clock) = w := setBlock_self h.hb
    refine ⟨es, clock, j, e0, p.2, m, ?_, by rw [hsb]; exact h, hj, by rw [hp, ← hpx], .inl rfl, .inl hj⟩
    simp [Instr.mapEntry, run_underlying ht, MapKept.run_getObj_map h.hb, K.check, hf, hj, hk, K.stays, hsame, MapKept.run_setObj_map _ h.hb, Result.andThen, setBlock]
omit [DecidableEq α] in
/-- The store behind: the row has grown, in its own block or in a new one. -/
theorem GrpE.store {P : Program} {t : TypeId} (h : GrpE w1 base b f enc kk te es clock m) {i : Nat} {e1 : MapEntry} {x : α} {L L' : List β} {v' : Value} (he : es[i]? = some e1) (hp : m[i]? = some (x, L)) (hg : w1.grownBy w2 e1.val.ownBlock)
    (hrow : w2.ownsRow base te kk v' L'.length (L'.flatMap enc)) (hat : v'.ownBlock = e1.val.ownBlock ∨ v'.ownBlock = some w1.heap.size) :
    ∃ es' w3, (Instr.entryStore t (.map (some b)) (goInt e1.born) v').run P w2 = .ok () w3 ∧ GrpE w3 base b f enc kk te es' clock (m.set i (x, L')) ∧ w2.grownBy w3 (some b) := by
  have hbne : e1.val.ownBlock ≠ some b := fun q => by have := (h.val_lt he q).1; have := h.hbb; omega
  have hb2 : w2.heap[b]? = some (.map es clock) := (hg.block b h.lt (fun q => hbne q.symm)).trans h.hb
  have he' : es.toList[i]? = some e1 := by simpa using he
  have hidx : es.findIdx? (fun e => ((e.born : Nat) : Int) == ((e1.born : Nat) : Int)) = some i := by
    rw [findIdx_arr]; exact findIdx_born h.nd he'
  have hil : i < es.size := (Array.getElem?_eq_some_iff.1 he).1
  have hlist : (es.modify i (fun e => { e with val := v' })).toList = es.toList.set i { e1 with val := v' } := by rw [Array.toList_modify, modify_eq_set _ _ _ _ he']
  have hget : ∀ j, (es.modify i (fun e => { e with val := v' }))[j]? = if i = j then some { e1 with val := v' } else es[j]? := fun j => by
    rw [← Array.getElem?_toList, hlist, List.getElem?_set]
    split
    · rename_i q; subst q
      rw [if_pos (by simpa using hil)]
    · rw [Array.getElem?_toList]
  refine ⟨es.modify i (fun e => { e with val := v' }), setBlock w2 b (.map (es.modify i (fun e => { e with val := v' })) clock), ?_, ?_, ⟨rfl, rfl, rfl, by simp [setBlock], fun k _ hk => heap_setBlock_other hb2 _ (fun q => hk (by rw [q]))⟩⟩
  · simp [Instr.entryStore, MapKept.run_getObj_map hb2, asInt, asIntOf, goInt, hidx, MapKept.run_setObj_map _ hb2, Result.andThen, setBlock]
  have ho : ∀ (j g : Nat) (e : MapEntry), es[j]? = some e → j ≠ i → e.val.ownBlock = some g → v'.ownBlock ≠ some g := fun j g e hj hji hgj q => by
    rcases hat with q1 | q1
    · exact h.apart i j e1 e g he hj (fun q2 => hji q2.symm) (q1.symm.trans q) hgj
    · rw [q1] at q
      injection q with q
      have := (h.val_lt hj hgj).2
      omega
  refine ⟨heap_setBlock_same hb2 _, h.hbb, by rw [Array.size_modify, List.length_set]; exact h.len, ?_, fun j e p hj hpj => ?_, fun e hm => ?_, ?_, fun j k ej ek g hj hk hjk hgj => ?_⟩
  · have a1 : (es.toList.map (·.key)).set i e1.key = es.toList.map (·.key) := set_self _ _ _ (by rw [List.getElem?_map, he']; rfl)
    have a2 : (m.set i (x, L')).map (·.1) = m.map (·.1) := by
      rw [List.map_set]
      exact set_self _ _ _ (by rw [List.getElem?_map, hp]; rfl)
    rw [hlist, List.map_set, a2, ← h.key]
    exact a1
  · rw [hget] at hj
    rw [List.getElem?_set] at hpj
    split at hj
    · rename_i q; subst q
      injection hj with hj; subst hj
      rw [if_pos rfl, if_pos (by rw [← h.len]; exact hil)] at hpj
      injection hpj with hpj; subst hpj
      exact own_set hb2 hrow h.hbb _
    · rename_i q
      rw [if_neg q] at hpj
      refine own_set hb2 ((h.row j e p hj hpj).kept hg ?_) h.hbb _
      cases hv : e.val.ownBlock with
      | none => exact .inl rfl
      | some g => exact .inr (fun q2 => h.apart j i e e1 g hj he (fun q3 => q q3.symm) hv q2.symm)
  · rw [hlist] at hm
    rcases List.mem_or_eq_of_mem_set hm with q | q
    · exact h.old e q
    · subst q; exact h.old e1 (List.mem_of_getElem? he')
  · rw [hlist, List.map_set]
    have a1 : (es.toList.map (·.born)).set i e1.born = es.toList.map (·.born) := set_self _ _ _ (by rw [List.getElem?_map, he']; rfl)
    show ((es.toList.map (·.born)).set i e1.born).Nodup
    rw [a1]; exact h.nd
  · rw [hget] at hj hk
    split at hj
    · rename_i q; subst q
      injection hj with hj; subst hj
      rw [if_neg hjk] at hk
      intro q2
      exact ho k g ek hk (fun q3 => hjk q3.symm) q2 hgj
    · rename_i q
      split at hk
      · rename_i q3; subst q3
        injection hk with hk; subst hk
        exact ho j g ej hj (fun q4 => q q4.symm) hgj
      · exact h.apart j k ej ek g hj hk hjk hgj
end
end Go.Proofs.YtminphldifncaaaDoor
