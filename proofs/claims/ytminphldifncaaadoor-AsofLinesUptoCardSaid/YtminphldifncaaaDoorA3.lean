/- The walk of the index's At. -/
import Derived.Test.YtminphldifncaaaDoorA2
set_option linter.unusedSimpArgs false
set_option linter.unusedVariables false
namespace Go.Proofs.YtminphldifncaaaDoor
open Go.RowKit LG
attribute [local go_sem] alloc_drewN setCell_drewN shape_drewN

theorem at_any (l : List Et) (C : Option Addr) (cc : Nat) (owner place day known : Int) (w : World) {B : Nat} (hC : EntsAt w B C l) (hB : B ≤ w.heap.size) (hl : l.length ≤ 1000000) (hI : LitsIn l) :
    Calls Tryd.prog 16 #[.slice C l.length cc, .int .i64 owner, .int .i64 place, .int .i64 day, .int .i64 known] w (IntBe (account l owner place day known) w) := by
  have K := Lib.hid (account_any l C cc owner place day known w hC hB hl hI)
  generalize account l owner place day known = n at K ⊢
  go_enter Tryd.func16, Tryd.ntmps16
  go_wp2_with (first | (go_at_call 44; (with_reducible refine K.out.mono ?_); rintro e1 w1 ⟨rfl, hb1⟩) | fail)
  go_ret
  exact ⟨rfl, hb1⟩
/-- The rows of a key. -/
theorem Grp.lookup {w : World} {base mb : Nat} {es : Array MapEntry} {clock : Nat} {m : List ((Int × Int) × List Et)} {L : List Et} (h : Grp w base mb es clock m) (hM : GI.Good m L) (x : Int × Int) :
    ∃ C cc, (Instr.lookup 80 (.map (some mb)) (keyV x) false).run Tryd.prog w = .ok (.slice C (L.filter (fun e => decide (GI.keyE e = x))).length cc) w ∧ EntsAt w w.heap.size C (L.filter (fun e => decide (GI.keyE e = x))) := by
  have hf := Tryd.keyHold.find x w es.toList (m.map (·.1)) h.key
  rcases findE_spec x (m.map (·.1)) es.toList 0 (by simp [h.len]) with ⟨q1, q2⟩ | ⟨j, e0, q1, q2, q3⟩
  · rw [q1] at hf
    have hn : L.filter (fun e => decide (GI.keyE e = x)) = [] := by
      rw [List.filter_eq_nil_iff]
      intro e he hk
      obtain ⟨p, hp1, hp2⟩ := hM.all e he
      exact q2 (List.mem_map.2 ⟨p, hp1, hp2.trans (of_decide_eq_true hk)⟩)
    rw [hn]
    refine ⟨none, 0, ?_, EntsAt.nil _ _ _⟩
    simp [Instr.lookup, run_underlying Tryd.underlying80, MapKept.run_getObj_map h.hb, Tryd.keyHold.check, hf, Tryd.zeroEnts, Result.andThen]
  · rw [q1] at hf
    have hj : es[j]? = some e0 := by simpa using q2
    obtain ⟨p, hp⟩ : ∃ p, m[j]? = some p := ⟨_, List.getElem?_eq_getElem (by rw [← h.len]; exact (Array.getElem?_eq_some_iff.1 hj).1)⟩
    have hpx : p.1 = x := by rw [List.getElem?_map, hp] at q3; simpa using q3
    have hv := hM.val p (List.mem_of_getElem? hp)
    rw [hpx] at hv
    rw [← hv]
    obtain ⟨C, cc, h1, h2, _⟩ := ents_of_owns (h.row j e0 p hj hp)
    refine ⟨C, cc, ?_, h2⟩
    simp [Instr.lookup, run_underlying Tryd.underlying80, MapKept.run_getObj_map h.hb, Tryd.keyHold.check, hf, h1, Result.andThen]
theorem born_inj' {es : List MapEntry} (hn : (es.map (·.born)).Nodup) {i j : Nat} {x y : MapEntry} (hx : es[i]? = some x) (hy : es[j]? = some y) (h : x.born = y.born) : i = j :=
  GI.nodup_get hn (x := x.born) (by rw [List.getElem?_map, hx]; rfl) (by rw [List.getElem?_map, hy, h]; rfl)
theorem all_seen' (es : Array MapEntry) (seen : Array Nat) (h : (leftOf es seen).size = 0) : ∀ x ∈ es.toList, seen.contains x.born = true := fun x hx => by
  cases hc : seen.contains x.born with
  | true => rfl
  | false =>
    have : x ∈ leftOf es seen := Array.mem_filter.2 ⟨Array.mem_toList_iff.1 hx, by rw [hc]; rfl⟩
    have := Array.eq_empty_of_size_eq_zero h ▸ this
    simp at this
set_option maxRecDepth 100000 in
set_option maxHeartbeats 8000000 in
theorem ixat_any (base xb mb : Nat) (L : List Et) (owner place day known : Int) (w : World) (h : IxAt w base xb mb L) (hL : L.length ≤ 1000) (hI : LitsIn L) :
    Calls Tryd.prog 19 #[.pointer (some ⟨xb, 0, none⟩), .int .i64 owner, .int .i64 place, .int .i64 day, .int .i64 known] w (IntBe (account L owner place day known) w) := by
  obtain ⟨c0, c1, c2⟩ := ix_cells h.box
  have ho := h.ord
  have hlt := h.lt
  have hsz := h.size
  obtain ⟨es, clock, m, hG, hM⟩ := h.grp
  clear h
  obtain ⟨i0, hi, hz0, hz1, hz2⟩ := info_parts Tryd.infoEntry
  by_cases hk : owner ≠ -1 ∧ place ≠ -1
  · have k1 : (owner != -1) = true := by simpa using hk.1
    have k2 : (place != -1) = true := by simpa using hk.2
    have k3 : (owner == -1) = false := by simpa using hk.1
    have k4 : (place == -1) = false := by simpa using hk.2
    obtain ⟨C, cc, hrun, hE⟩ := Grp.lookup hG hM (owner, place)
    have K := Lib.hid (at_any _ C cc owner place day known w hE (Nat.le_refl _) (Nat.le_trans (List.length_filter_le _ _) (by omega)) (fun e he => hI e (List.mem_filter.1 he).1))
    rw [GI.account_key L hk.1 hk.2] at K
    generalize account L owner place day known = n at K ⊢
    generalize (L.filter (fun e => decide (GI.keyE e = (owner, place)))).length = n1 at hrun K
    simp only [keyV] at hrun
    clear hk hM hG hE
    go_enter Tryd.func19, Tryd.ntmps19
    go_wp2_with (first | (go_at_call 16; (with_reducible refine K.out.mono ?_); rintro e1 w1 ⟨rfl, hb1⟩) | fail)
    go_ret
    exact ⟨rfl, hb1⟩
  · obtain ⟨M, hM0⟩ : ∃ M, M = GI.matchB owner place := ⟨_, rfl⟩
    have hmt : Hid (∀ x : Int × Int, ∀ b1 b2 b3 b4 : Bool, (owner == -1) = b1 → (x.1 == owner) = b2 → (place == -1) = b3 → (x.2 == place) = b4 → M x = ((b1 || b2) && (b3 || b4))) := fun x b1 b2 b3 b4 h1 h2 h3 h4 => by
      subst h1 h2 h3 h4; rw [hM0]; rfl
    have hres : Hid (∀ A : List Et, A.Perm (L.filter fun e => M (GI.keyE e)) → account A owner place day known = account L owner place day known) := fun A hA => by
      rw [GI.account_perm hA, hM0]; exact GI.account_match L owner place day known
    have hgl : Hid (∀ i, (GI.grpOf M m i).length ≤ 1000) := fun i => Nat.le_trans (GI.grp_len hM M i) hL
    have hml : m.length ≤ 1000 := Nat.le_trans hM.len hL
    have hIg : Hid (∀ i, LitsIn (GI.grpOf M m i)) := fun i e he => by
      unfold GI.grpOf at he
      split at he
      · rename_i p hp
        split at he
        · rw [hM.val p (List.mem_of_getElem? hp)] at he
          exact hI e (List.mem_filter.1 he).1
        · cases he
      · cases he
    clear hM0
    have hM := Lib.hid hM
    have hG := Lib.hid hG
    obtain ⟨b1, g1⟩ : ∃ b, (owner == -1) = b := ⟨_, rfl⟩
    obtain ⟨b3, g3⟩ : ∃ b, (place == -1) = b := ⟨_, rfl⟩
    have n1 : (owner != -1) = !b1 := by rw [← g1]; rfl
    have n3 : (place != -1) = !b3 := by rw [← g3]; rfl
    have hnn : (!b1 && !b3) = false := by
      rw [← n1, ← n3, Bool.eq_false_iff]; intro q; simp at q; exact hk q
    clear hk
    have hrg := run_range_map (P := Tryd.prog) w 80 84 32 mb es clock Tryd.underlying80 hG.out.hb
    go_enter Tryd.func19, Tryd.ntmps19
    cases b1 <;> cases b3 <;> simp only [Bool.not_true, Bool.not_false, Bool.and_self, Bool.and_true, Bool.and_false, Bool.false_and, Bool.true_and, reduceCtorEq] at hnn n1 n3
    all_goals
      go_wp2_with fail
      clear hrg
      have hri := heap_alloc_new w (.mapIter (some mb) clock #[] clock)
      have hbi : Below w.heap.size w (w.alloc (.mapIter (some mb) clock #[] clock)) := (Below.refl _ _).alloc (Nat.le_refl _) _
      have hzi : w.heap.size + 1 ≤ (w.alloc (.mapIter (some mb) clock #[] clock)).heap.size := by simp
      generalize w.alloc (.mapIter (some mb) clock #[] clock) = w0 at hri hbi hzi ⊢
      go_loopw [11] (fun u11 w1 => ∃ (seen : Array Nat) (S : List Nat), w1.heap[w.heap.size]? = some (.mapIter (some mb) clock seen clock) ∧ Below w.heap.size w w1 ∧ w.heap.size + 1 ≤ w1.heap.size ∧ w1.ownsRow (w.heap.size + 1) 34 7 u11 (S.flatMap (GI.grpOf M m)).length (rowE (S.flatMap (GI.grpOf M m))) ∧ Hid (S.Nodup ∧ (∀ i ∈ S, i < m.length) ∧ ∀ i e, es[i]? = some e → (seen.contains e.born = true ↔ i ∈ S))) (fun _ w1 => (leftOf es (w1.iterSeen w.heap.size)).size)
      case atStart => exact ⟨#[], [], hri, hbi, hzi, World.ownsRow_nil _ _ _ _, ⟨List.nodup_nil, fun i h => by simp at h, fun i e _ => by simp⟩⟩
      case round =>
        clear hri hbi hzi
        obtain ⟨seen, S, hr1, hb1, hz1w, hrow, hS⟩ := hrel
        have hG1 := hG.out.below hb1
        have law := run_next_at (P := Tryd.prog) wr 0 w.heap.size mb clock clock seen es clock hr1 hG1.hb hG1.old (Nat.le_refl _)
        obtain ⟨A, hA⟩ : ∃ A, A = S.flatMap (GI.grpOf M m) := ⟨_, rfl⟩
        rw [← hA] at hrow
        have hAl : A.length ≤ 1000000 := by
          rw [hA]
          have h1 := GI.flat_len (S := S) (g := GI.grpOf M m) (K := 1000) fun i _ => hgl.out i
          have h2 := GI.nodup_len m.length S hS.out.1 hS.out.2.1
          omega
        rcases law with ⟨h0, hrun⟩ | ⟨e, he, w2, hal2, hrun⟩
        · have hnx : ∀ ty, (Instr.next (.pointer (some ⟨w.heap.size, 0, none⟩)) false ty).run Tryd.prog wr = _ := fun _ => hrun
          obtain ⟨D, cd, rfl, hD, _⟩ := ents_of_owns hrow
          have hperm : A.Perm (L.filter fun e => M (GI.keyE e)) := by
            rw [hA]
            refine GI.seen_perm hM.out M hS.out.1 fun i => ⟨hS.out.2.1 i, fun hi => ?_⟩
            obtain ⟨e, hie⟩ : ∃ e, es[i]? = some e := ⟨_, Array.getElem?_eq_getElem (by rw [hG.out.len]; exact hi)⟩
            exact (hS.out.2.2 i e hie).1 (all_seen' es seen h0 e (Array.mem_toList_iff.2 (Array.mem_of_getElem? hie)))
          have hAI : LitsIn A := fun e he => by
            rw [hA] at he
            obtain ⟨i, _, hi⟩ := List.mem_flatMap.1 he
            exact hIg.out i e hi
          have K := Lib.hid (at_any A D cd owner place day known wr hD (Nat.le_refl _) hAl hAI)
          rw [hres.out A hperm] at K
          obtain ⟨nn, hnn2⟩ : ∃ n, account L owner place day known = n := ⟨_, rfl⟩
          rw [hnn2] at K
          have HN := Lib.hid hnn2
          clear hnn2
          clear hrow hA hperm hAI hD hrun h0
          go_wp2_with (first | (go_at_call 16; (with_reducible refine K.out.mono ?_); rintro e1 w1 ⟨rfl, hb9⟩) | fail)
          go_ret
          exact ⟨ret_int HN.out.symm, hb1.trans (hb9.mono hb1.size)⟩
        · have hnx : ∀ ty, (Instr.next (.pointer (some ⟨w.heap.size, 0, none⟩)) false ty).run Tryd.prog wr = _ := fun _ => hrun
          obtain ⟨hem, hes⟩ := mem_left he
          have hlw : Below w.heap.size wr w2 := by rcases hal2 with rfl | rfl <;> exact ⟨rfl, rfl, rfl, Nat.le_refl _, fun _ _ => rfl⟩
          have hh2 : w2.heap = wr.heap := by rcases hal2 with rfl | rfl <;> rfl
          have hr2 : (Go.ChangeMaps.setBlock w2 w.heap.size (.mapIter (some mb) clock (seen.push e.born) clock)).heap[w.heap.size]? = some (.mapIter (some mb) clock (seen.push e.born) clock) := by
            show (w2.heap.setIfInBounds _ _)[_]? = _
            rw [Array.getElem?_setIfInBounds, if_pos rfl, if_pos (by rw [hh2]; exact (Array.getElem?_eq_some_iff.1 hr1).1)]
          have hk2 : ∀ j, j ≠ w.heap.size → (Go.ChangeMaps.setBlock w2 w.heap.size (.mapIter (some mb) clock (seen.push e.born) clock)).heap[j]? = wr.heap[j]? := fun j hj => by
            show (w2.heap.setIfInBounds _ _)[j]? = _
            rw [Array.getElem?_setIfInBounds, if_neg (by omega), hh2]
          have hz2w : (Go.ChangeMaps.setBlock w2 w.heap.size (.mapIter (some mb) clock (seen.push e.born) clock)).heap.size = wr.heap.size := by simp [Go.ChangeMaps.setBlock, hh2]
          have hb2 : Below w.heap.size w (Go.ChangeMaps.setBlock w2 w.heap.size (.mapIter (some mb) clock (seen.push e.born) clock)) :=
            hb1.trans (hlw.trans ⟨rfl, rfl, rfl, by simp [Go.ChangeMaps.setBlock], fun j hj => (hk2 j (by omega)).trans (by rw [hh2])⟩)
          generalize Go.ChangeMaps.setBlock w2 w.heap.size (.mapIter (some mb) clock (seen.push e.born) clock) = w3 at hnx hr2 hb2 hk2 hz2w
          have hrow3 := row_at hrow fun g q1 q2 => hk2 g (by omega)
          have hG3 := hG.out.below hb2
          have hen := run_entry_at (P := Tryd.prog) w3 w.heap.size mb clock seen es clock e hr2 hG3.hb hem hG3.nd
          obtain ⟨i, hie⟩ := List.mem_iff_getElem?.1 hem
          rw [Array.getElem?_toList] at hie
          obtain ⟨p, hip⟩ : ∃ p, m[i]? = some p := ⟨_, List.getElem?_eq_getElem (by rw [← hG3.len]; exact (Array.getElem?_eq_some_iff.1 hie).1)⟩
          have hkey : e.key = keyV p.1 := by
            have e1 := congrArg (fun l => l[i]?) hG3.key
            simp only [List.getElem?_map, Array.getElem?_toList, hie, hip, Option.map_some, Option.some.injEq] at e1
            exact e1
          obtain ⟨D, cd, hval, hD, _⟩ := ents_of_owns (hG3.row i e p hie hip)
          have hpl : p.2.length ≤ 1000 := by rw [hM.out.val p (List.mem_of_getElem? hip)]; exact Nat.le_trans (List.length_filter_le _ _) hL
          have hS' : Hid ((S ++ [i]).Nodup ∧ (∀ j ∈ S ++ [i], j < m.length) ∧ ∀ j e', es[j]? = some e' → ((seen.push e.born).contains e'.born = true ↔ j ∈ S ++ [i])) := by
            have hiS : i ∉ S := fun q => by
              have := (hS.out.2.2 i e hie).2 q
              rw [this] at hes; cases hes
            refine ⟨List.nodup_append.2 ⟨hS.out.1, by simp, fun a ha b hb e1 => by simp at hb; subst hb; subst e1; exact hiS ha⟩, fun j hj => ?_, fun j e' hj => ?_⟩
            · rcases List.mem_append.1 hj with q | q
              · exact hS.out.2.1 j q
              · simp at q; subst q; exact (List.getElem?_eq_some_iff.1 hip).1
            · rw [contains_push, Bool.or_eq_true, List.mem_append, hS.out.2.2 j e' hj]
              constructor
              · rintro (q | q)
                · exact .inl q
                · right
                  have : j = i := born_inj' hG3.nd (by rw [Array.getElem?_toList]; exact hj) (by rw [Array.getElem?_toList]; exact hie) (beq_iff_eq.1 q)
                  simp [this]
              · rintro (q | q)
                · exact .inl q
                · simp at q; subst q
                  rw [hie] at hj; injection hj with hj; subst hj
                  exact .inr (by simp)
          have hFl : Hid ((S ++ [i]).flatMap (GI.grpOf M m) = A ++ (if M p.1 then p.2 else [])) := by
            show _ = _
            rw [List.flatMap_append, ← hA]
            simp [GI.grpOf, hip]
          have hmea : Hid ((leftOf es (seen.push e.born)).size < (leftOf es seen).size) := left_shrinks es seen e he
          obtain ⟨⟨x1, x2⟩, pl⟩ := p
          dsimp only at hkey hval hD hpl hFl
          rw [hkey, hval] at hnx hen
          simp only [keyV] at hnx hen
          obtain ⟨b2, g2⟩ : ∃ b, (x1 == owner) = b := ⟨_, rfl⟩
          obtain ⟨b4, g4⟩ : ∃ b, (x2 == place) = b := ⟨_, rfl⟩
          rw [hmt.out (x1, x2) _ _ _ _ g1 g2 g3 g4] at hFl
          have hRd := Lib.hid (reads_ents hD)
          have HR3 := Lib.hid hr2
          have HR1 := Lib.hid hr1
          clear hk2 hkey hval hD hie hip hem hes he hal2 hlw hh2 hrun hrow hG1 hG3 hb1 hA hr1 hr2
          go_wp2_with (first | (at_builtin; refine wpList_append_any _ (by rfl) _ _ 32 (by rfl) (w.heap.size + 1) 34 i0 _ 7 56 Tryd.underlying32 hi hz0 hz1 hz2 rfl (by decide) _ A.length _ (by rfl) (hrow3.alloc _) _ D pl.length cd (rowE pl) (by rfl) (hRd.out.alloc (Nat.le_refl _) _) (rowE_one pl) (by unfold maxLen; omega) (by omega) (by simp; omega) ?_; intro v' w5 hown' hgrow hat) | fail)
          all_goals first
            | (go_roundw
               case rel =>
                 have hf := hFl.out
                 rw [if_pos (by simp [*])] at hf
                 have hgz := hgrow.size
                 have hrb : ∀ g, Value.ownBlock u11 = some g → w.heap.size + 1 ≤ g := fun g q => (hrow3.lt g q).1
                 refine ⟨seen.push e.born, S ++ [i], ?_, (hb2.alloc (by omega) _).grown hgrow (by simp; omega) (fun g q => by have := hrb g q; omega), by simp at hgz; omega, by rw [hf, List.length_append, rowE_append]; exact hown', hS'⟩
                 exact (hgrow.block _ (by simp; omega) (fun q => by have := hrb _ q.symm; omega)).trans ((Below.heap_alloc _ _ _ (by omega)).trans HR3.out)
               case measure =>
                 have hrb : ∀ g, Value.ownBlock u11 = some g → w.heap.size + 1 ≤ g := fun g q => (hrow3.lt g q).1
                 have h5 : w5.heap[w.heap.size]? = some (.mapIter (some mb) clock (seen.push e.born) clock) := (hgrow.block _ (by simp; omega) (fun q => by have := hrb _ q.symm; omega)).trans ((Below.heap_alloc _ _ _ (by omega)).trans HR3.out)
                 unfold World.iterSeen
                 rw [HR1.out, h5]
                 exact hmea.out)
            | (go_roundw
               case rel =>
                 have hf := hFl.out
                 rw [if_neg (by simp [*])] at hf
                 rw [List.append_nil] at hf
                 exact ⟨seen.push e.born, S ++ [i], (Below.heap_alloc _ _ _ (by omega)).trans HR3.out, hb2.alloc (by omega) _, by simp; omega, by rw [hf]; exact hrow3.alloc _, hS'⟩
               case measure =>
                 have h5 : (w3.alloc (.cells #[.int .i64 x1, .int .i64 x2] 84)).heap[w.heap.size]? = some (.mapIter (some mb) clock (seen.push e.born) clock) := (Below.heap_alloc _ _ _ (by omega)).trans HR3.out
                 unfold World.iterSeen
                 rw [HR1.out, h5]
                 exact hmea.out)
            | fail
end Go.Proofs.YtminphldifncaaaDoor
