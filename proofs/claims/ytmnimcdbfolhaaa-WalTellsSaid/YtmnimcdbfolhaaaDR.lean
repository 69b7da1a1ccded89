/- Plain words of the reference's disk, and that it goes with the disk's. -/
import Derived.Test.YtmnimcdbfolhaaaGP
set_option linter.unusedSimpArgs false
set_option linter.unusedVariables false
namespace Go.Proofs.Ytmnimcdbfolhaaa
namespace DK
/-- The reference's disk: what lasts, what waits. -/
structure RS where
  lasts : Nat → Bts
  q : List (Nat × Bts)
  lost : Nat
  down : Bool
  armed : Nat
  keep : List Int
namespace RS
def zero : RS := ⟨fun _ => [], [], 0, false, 0, []⟩
def ofQ (f : Nat) (q : List (Nat × Bts)) : List Bts := (q.filter fun p => decide (p.1 = f)).map (·.2)
def all (t : RS) (f : Nat) : Bts := t.lasts f ++ (ofQ f t.q).flatten
def size (t : RS) (f : Int) : Int := if num f then ((t.all f.toNat).length : Int) else 0
def put (t : RS) (f : Nat) (x : Bts) : RS := if x = [] then t else { t with q := t.q ++ [(f, x)] }
def kept (keep : List Int) (i n : Nat) : Nat := match keep[i]? with
  | some k => (min (max k 0) (n : Int)).toNat
  | none => 0
def aft (keep : List Int) (f : Nat) : Nat → List (Nat × Bts) → Bts → Nat → Bts
  | _, [], s, _ => s
  | i, p :: q, s, g => if p.1 = f then
      (if 0 < kept keep i p.2.length then aft keep f (i + 1) q (s ++ List.replicate g 0 ++ p.2.take (kept keep i p.2.length)) (p.2.length - kept keep i p.2.length) else aft keep f (i + 1) q s (g + p.2.length))
    else aft keep f (i + 1) q s g
def crash (t : RS) (keep : List Int) : RS := if t.down then t else { t with lasts := fun f => aft keep f 0 t.q (t.lasts f) 0, q := [], down := true, armed := 0 }
def fits (t : RS) (f : Int) (x : Bts) : Bool := num f && decide ((t.all f.toNat).length + x.length ≤ 16777216)
def comes (t : RS) (f : Int) (x : Bts) : RS :=
  if t.down = true ∨ t.armed = 0 then t else if 1 < t.armed then { t with armed := t.armed - 1 } else
    crash (if fits t f x then put { t with armed := t.armed - 1 } f.toNat x else { t with armed := t.armed - 1 }) t.keep
def may (t : RS) (f : Int) : Int := if t.down then 9 else if num f then 0 else 1
def append (t0 : RS) (f : Int) (x : Bts) : Int × RS :=
  let t := comes t0 f x
  if t.down then (9, t) else if num f then (if 16777216 < (t.all f.toNat).length + x.length then (8, t) else (0, put t f.toNat x)) else (1, t)
def read (t : RS) (f : Int) : Bts × Int := if t.down then ([], 9) else if num f then (t.all f.toNat, 0) else ([], 1)
def flush (t0 : RS) (f : Int) : Int × RS :=
  let t := comes t0 0 []
  if t.down then (9, t) else if num f then (if 0 < t.lost then (13, { t with lost := t.lost - 1 }) else (0, { t with lasts := upd t.lasts f.toNat (t.all f.toNat), q := t.q.filter fun p => !decide (p.1 = f.toNat) })) else (1, t)
/-- What a cut leaves of what waits: rest bytes more of the file. -/
def cutQ (f : Nat) : Nat → List (Nat × Bts) → List (Nat × Bts)
  | _, [] => []
  | r, p :: q => if p.1 = f then (if p.2.take r = [] then cutQ f (r - min r p.2.length) q else (p.1, p.2.take r) :: cutQ f (r - min r p.2.length) q)
    else (if p.2 = [] then cutQ f r q else p :: cutQ f r q)
def cut (t0 : RS) (f n : Int) : Int × RS :=
  let t := comes t0 0 []
  if t.down then (9, t) else if num f = true ∧ 0 ≤ n ∧ n ≤ (t.all f.toNat).length then
    (0, { t with lasts := upd t.lasts f.toNat ((t.lasts f.toNat).take n.toNat), q := cutQ f.toNat (n.toNat - (t.lasts f.toNat).length) t.q }) else (1, t)
def turn (t0 : RS) (f g : Int) : Int × RS :=
  let t := comes t0 0 []
  if t.down then (9, t) else if num f = true ∧ num g = true ∧ f ≠ g then
    (if (t.all g.toNat).length ≠ (t.lasts g.toNat).length then (10, t) else (0, { t with lasts := upd (upd t.lasts f.toNat (t.lasts g.toNat)) g.toNat [], q := t.q.filter fun p => !decide (p.1 = f.toNat) })) else (1, t)
def lose (t : RS) (n : Int) : RS := { t with lost := n.toNat }
def arm (t : RS) (n : Int) (keep : List Int) : RS := { t with armed := n.toNat, keep := keep }
def start (t : RS) : RS := { t with down := false }
end RS
/-- The two disks go together. -/
structure Sim (s : St) (t : RS) : Prop where
  lasts : ∀ f, f < 8 → t.lasts f = (s.data f).take (s.dur f)
  q : t.q = s.q.map fun p => (p.file, seg (s.data p.file) p)
  lost : t.lost = s.lost
  down : t.down = s.down
  armed : t.armed = s.armed
  keep : 0 < t.armed → t.keep = s.keep
theorem Sim.zero : Sim St.zero RS.zero := ⟨fun _ _ => rfl, rfl, rfl, rfl, rfl, fun _ => rfl⟩
theorem ofQ_map (f : Nat) (d : Nat → Bts) : ∀ q : List Pd, RS.ofQ f (q.map fun p => (p.file, seg (d p.file) p)) = (ofF f q).map (seg (d f))
  | [] => rfl
  | p :: q => by
    have ih := ofQ_map f d q
    unfold RS.ofQ at ih ⊢
    rw [List.map_cons, List.filter_cons, ofF_cons]
    by_cases h : p.file = f
    · rw [if_pos (by simpa using h), if_pos h, List.map_cons, List.map_cons, ih, h]
    · rw [if_neg (by simpa using h), if_neg h, ih]
theorem chain_all (d : Bts) : ∀ {a b : Nat} {l : List Pd}, Chain a l b → b ≤ d.length → d.take a ++ (l.map (seg d)).flatten = d.take b
  | a, b, [], h, _ => by rw [show a = b from h]; simp
  | a, b, p :: l, ⟨h1, h2, h3⟩, hb => by
    have ih := chain_all d h3 hb
    have h4 := (chain_le h3).1
    rw [List.map_cons, List.flatten_cons, ← List.append_assoc, ← ih]
    congr 1
    unfold seg
    rw [h1, ← List.take_add, show a + (p.un - a) = p.un by omega]
section
variable {s : St} {t : RS} (h : Sim s t) (hk : Ok s) (hc : Cov s)
include h hk hc
omit hk in
theorem Sim.all {f : Nat} (hf : f < 8) : t.all f = s.data f := by
  unfold RS.all
  rw [h.lasts f hf, h.q, ofQ_map]
  have := chain_all (s.data f) (hc f hf) (Nat.le_refl _)
  rw [this, List.take_length]
omit hk in
theorem Sim.size (f : Int) : t.size f = DK.size s f := by
  unfold RS.size DK.size
  by_cases hn : num f = true
  · rw [if_pos hn, if_pos hn, h.all hc (num_lt hn)]
  · rw [if_neg hn, if_neg hn]
omit hk in
theorem Sim.read (f : Int) : t.read f = DK.read s f := by
  unfold RS.read DK.read
  rw [h.down]
  by_cases hd : s.down = true
  · rw [if_pos hd, if_pos hd]
  · rw [if_neg hd, if_neg hd]
    by_cases hn : num f = true
    · rw [if_pos hn, if_pos hn, h.all hc (num_lt hn)]
    · rw [if_neg hn, if_neg hn]
end
theorem kept_same (keep : List Int) (i : Nat) (p : Pd) (h : p.fr ≤ p.un) : RS.kept keep i (p.un - p.fr) = kept keep i p := by
  unfold RS.kept kept
  cases keep[i]? with
  | none => rfl
  | some k => dsimp only; omega
theorem seg_len {d : Bts} {p : Pd} (h2 : p.un ≤ d.length) : (seg d p).length = p.un - p.fr := by
  unfold seg
  rw [List.length_take, List.length_drop]; omega
theorem aft_same (keep : List Int) (d : Nat → Bts) (f : Nat) : ∀ (q : List Pd) (i : Nat) (x : Bts) (g : Nat), (∀ p ∈ q, p.fr ≤ p.un ∧ p.un ≤ (d p.file).length) → RS.aft keep f i (q.map fun p => (p.file, seg (d p.file) p)) x g = aft keep (d f) f i q x g
  | [], _, _, _, _ => rfl
  | p :: q, i, x, g, h => by
    obtain ⟨h1, h2⟩ := h p (by simp)
    have ih := fun x g => aft_same keep d f q (i + 1) x g (fun p hp => h p (by simp [hp]))
    rw [List.map_cons]
    unfold RS.aft aft
    dsimp only
    rw [seg_len h2, kept_same keep i p h1]
    by_cases hf : p.file = f
    · rw [if_pos hf, if_pos hf, ih, ih, hf]
    · rw [if_neg hf, if_neg hf, ih]
section
variable {s : St} {t : RS} (h : Sim s t) (hk : Ok s) (hc : Cov s)
include h hk hc
theorem Sim.crash (keep : List Int) : Sim (DK.crash s keep) (t.crash keep) := by
  unfold RS.crash
  rw [h.down]
  by_cases hd : s.down = true
  · rw [if_pos hd]
    unfold DK.crash
    rw [if_pos hd]; exact h
  · have hd0 : s.down = false := by simpa using hd
    rw [if_neg hd]
    have hcd := fun f (hf : f < 8) => crash_aft hk hc hd0 keep hf
    have hcov := hc.crash hk keep
    have e : DK.crash s keep = { data := fun f => (crD keep s.q s.data s.q.length f).take (crU keep s.q s.dur s.q.length f), dur := crU keep s.q s.dur s.q.length, q := [], down := true, lost := s.lost, armed := 0, keep := [] } := by unfold DK.crash; rw [if_neg hd]
    refine ⟨fun f hf => ?_, by rw [e]; rfl, by rw [e]; exact h.lost, by rw [e], by rw [e], fun g => absurd g (Nat.lt_irrefl 0)⟩
    have hch : (DK.crash s keep).dur f = ((DK.crash s keep).data f).length := by
      have := hcov f hf
      rw [e] at this ⊢
      exact this
    rw [hch, List.take_length, hcd f hf]
    show RS.aft keep f 0 t.q (t.lasts f) 0 = _
    rw [h.q, h.lasts f hf, aft_same keep s.data f s.q 0 _ 0 (fun p hp => (hk.q p hp).2)]
omit h hk hc in
theorem Sim.of_eq {t2 : RS} (h : Sim s t) (e : t = t2) : Sim s t2 := e ▸ h
omit hk hc in
theorem Sim.due (ha : 1 < s.armed) : Sim (dueS s) { t with armed := t.armed - 1 } := ⟨h.lasts, h.q, h.lost, h.down, by show t.armed - 1 = s.armed - 1; rw [h.armed], fun _ => h.keep (by rw [h.armed]; omega)⟩
omit hk in
theorem Sim.addS {f : Int} {x : Bts} (hn : num f = true) (hl : (s.data f.toNat).length + x.length ≤ 16777216) : Sim (DK.addS s f x) (t.put f.toNat x) := by
  have hf := num_lt hn
  unfold RS.put DK.addS
  by_cases hx : x = []
  · rw [if_pos hx, if_neg (fun g => g.2.2 hx)]; exact h
  · rw [if_neg hx, if_pos ⟨hn, hl, hx⟩]
    have hcf := hc f.toNat hf
    refine ⟨fun g hg => ?_, ?_, h.lost, h.down, h.armed, h.keep⟩
    · dsimp only
      rw [h.lasts g hg]
      by_cases e : g = f.toNat
      · subst e
        rw [upd_same, List.take_append_of_le_length (chain_le hcf).1]
      · rw [upd_other _ _ e]
    · dsimp only
      rw [h.q, List.map_append]
      congr 1
      · refine List.map_congr_left fun p hp => ?_
        by_cases e : p.file = f.toNat
        · have hq : p ∈ ofF f.toNat s.q := List.mem_filter.2 ⟨hp, by simpa using e⟩
          have := (chain_le hcf).2 p hq
          rw [e, upd_same]
          congr 1
          exact (seg_app this.2.2 (by omega)).symm
        · rw [upd_other _ _ e]
      · simp only [List.map_cons, List.map_nil, upd_same]
        congr 2
        unfold seg
        simp
end
section
variable {s : St} {t : RS} (h : Sim s t) (hk : Ok s) (hc : Cov s)
include h hk hc
/-- What comes ahead of a call. -/
theorem Sim.comes (hd : s.down = false) (f : Int) (x : Bts) : if isDue s = true then Sim (DK.crash (DK.addS (dueS s) f x) s.keep) (t.comes f x) else Sim (dueS s) (t.comes f x) := by
  have htd : t.down = false := by rw [h.down]; exact hd
  unfold RS.comes
  by_cases h1 : isDue s = true
  · have ha : s.armed = 1 := by simpa [isDue] using h1
    have hta : t.armed = 1 := by rw [h.armed]; exact ha
    have hS : Sim (dueS s) { t with armed := t.armed - 1 } := ⟨h.lasts, h.q, h.lost, h.down, by show t.armed - 1 = s.armed - 1; rw [h.armed], fun g => by have g : 0 < t.armed - 1 := g; omega⟩
    have hcd := hc.dueS
    have hkd := hk.dueS
    have hkp := h.keep (by omega)
    rw [if_pos h1, if_neg (by rw [htd, hta]; simp), if_neg (by omega), ← hkp]
    by_cases hf : RS.fits t f x = true
    · have hf2 := hf
      unfold RS.fits at hf2
      rw [Bool.and_eq_true, decide_eq_true_eq] at hf2
      have hl : (s.data f.toNat).length + x.length ≤ 16777216 := by rw [← h.all hc (num_lt hf2.1)]; exact hf2.2
      rw [if_pos hf]
      exact (hS.addS hcd (f := f) (x := x) hf2.1 hl).crash (hkd.addS f x) (hcd.addS f x) t.keep
    · rw [if_neg hf]
      have e : DK.addS (dueS s) f x = dueS s := by
        unfold DK.addS
        refine if_neg (fun g => hf ?_)
        unfold RS.fits
        rw [Bool.and_eq_true, decide_eq_true_eq, h.all hc (num_lt g.1)]
        exact ⟨g.1, g.2.1⟩
      rw [e]
      exact hS.crash hkd hcd t.keep
  · have ha : s.armed ≠ 1 := by simpa [isDue] using h1
    rw [if_neg h1]
    by_cases h0 : t.armed = 0
    · rw [if_pos (.inr h0)]
      have : s.armed = 0 := by rw [← h.armed]; exact h0
      exact ⟨h.lasts, h.q, h.lost, h.down, by show t.armed = s.armed - 1; omega, fun g => absurd g (by omega)⟩
    · have h2 : 1 < t.armed := by rw [h.armed] at h0 ⊢; omega
      rw [if_neg (by rw [htd]; simp; exact h0), if_pos h2]
      exact h.due (by rw [← h.armed]; exact h2)
omit hk hc in
theorem Sim.stay (hd : s.down = true) (f : Int) (x : Bts) : t.comes f x = t := by
  unfold RS.comes
  rw [if_pos (.inl (by rw [h.down]; exact hd))]
theorem Sim.append (f : Int) (x : Bts) : (t.append f x).1 = (DK.append s f x).1 ∧ Sim (DK.append s f x).2 (t.append f x).2 := by
  unfold RS.append DK.append
  dsimp only
  by_cases hd : s.down = true
  · rw [h.stay hd, h.down, if_pos hd, if_pos hd]
    exact ⟨rfl, h⟩
  · have hd0 : s.down = false := by simpa using hd
    rw [if_neg hd]
    have hcm := h.comes hk hc hd0 f x
    by_cases h1 : isDue s = true
    · rw [if_pos h1] at hcm
      have e : (DK.crash (DK.addS (dueS s) f x) s.keep).down = true := by
        unfold DK.crash
        split
        · assumption
        · rfl
      rw [if_pos h1, if_pos (hcm.down.trans e)]
      exact ⟨rfl, hcm⟩
    · rw [if_neg h1] at hcm
      rw [if_neg h1, if_neg (show ¬ _ = true by rw [hcm.down]; exact hd)]
      unfold addE
      by_cases hn : num f = true
      · rw [if_pos hn, if_pos hn, hcm.all hc.dueS (num_lt hn)]
        by_cases hl : 16777216 < (s.data f.toNat).length + x.length
        · rw [if_pos hl, if_pos (show 16777216 < ((dueS s).data f.toNat).length + x.length from hl)]
          have e : DK.addS (dueS s) f x = dueS s := by
            unfold DK.addS
            refine if_neg (fun g => ?_)
            have : (s.data f.toNat).length + x.length ≤ 16777216 := g.2.1
            omega
          rw [e]
          exact ⟨rfl, hcm⟩
        · rw [if_neg hl, if_neg (show ¬ 16777216 < ((dueS s).data f.toNat).length + x.length from hl)]
          exact ⟨rfl, hcm.addS hc.dueS hn (show (s.data f.toNat).length + x.length ≤ 16777216 by omega)⟩
      · rw [if_neg hn, if_neg hn]
        have e : DK.addS (dueS s) f x = dueS s := by
          unfold DK.addS
          exact if_neg (fun g => hn g.1)
        rw [e]
        exact ⟨rfl, hcm⟩
/-- Ahead of the other calls. -/
theorem Sim.come0 (hd : s.down = false) : if isDue s = true then Sim (intS s) (t.comes 0 []) ∧ (intS s).down = true else Sim (dueS s) (t.comes 0 []) := by
  have hcm := h.comes hk hc hd 0 []
  have e : DK.addS (dueS s) 0 [] = dueS s := by
    unfold DK.addS
    exact if_neg (fun g => g.2.2 rfl)
  rw [e] at hcm
  by_cases h1 : isDue s = true
  · rw [if_pos h1] at hcm ⊢
    have e2 : intS s = DK.crash (dueS s) s.keep := by unfold intS; rw [if_pos h1]
    rw [e2]
    refine ⟨hcm, ?_⟩
    unfold DK.crash
    split
    · assumption
    · rfl
  · rw [if_neg h1] at hcm ⊢
    exact hcm
omit hk hc in
theorem Sim.flushS {f : Nat} (hf : f < 8) (hc : Cov s) : Sim (DK.flushS s f) { t with lasts := upd t.lasts f (t.all f), q := t.q.filter fun p => !decide (p.1 = f) } := by
  refine ⟨fun g hg => ?_, ?_, h.lost, h.down, h.armed, h.keep⟩
  · show upd t.lasts f (t.all f) g = (s.data g).take (upd s.dur f (s.data f).length g)
    by_cases e : g = f
    · subst e; rw [upd_same, upd_same, h.all hc hf, List.take_length]
    · rw [upd_other _ _ e, upd_other _ _ e]; exact h.lasts g hg
  · show t.q.filter _ = (s.q.filter _).map _
    rw [h.q, List.filter_map]
    rfl
theorem Sim.flush (f : Int) : (t.flush f).1 = (DK.flush s f).1 ∧ Sim (DK.flush s f).2 (t.flush f).2 := by
  unfold RS.flush DK.flush
  dsimp only
  by_cases hd : s.down = true
  · rw [h.stay hd, h.down, if_pos hd, if_pos hd]
    exact ⟨rfl, h⟩
  · have hd0 : s.down = false := by simpa using hd
    rw [if_neg hd]
    have hcm := h.come0 hk hc hd0
    by_cases h1 : isDue s = true
    · rw [if_pos h1] at hcm
      rw [if_pos h1, if_pos (hcm.1.down.trans hcm.2)]
      exact ⟨rfl, hcm.1⟩
    · rw [if_neg h1] at hcm
      rw [if_neg h1, if_neg (show ¬ _ = true by rw [hcm.down]; exact hd)]
      by_cases hn : num f = true
      · rw [if_pos hn, if_pos hn]
        by_cases hl : 0 < s.lost
        · rw [if_pos hl, if_pos (show 0 < _ by rw [hcm.lost]; exact hl)]
          exact ⟨rfl, hcm.lasts, hcm.q, by show (t.comes 0 []).lost - 1 = s.lost - 1; rw [hcm.lost]; rfl, hcm.down, hcm.armed, hcm.keep⟩
        · rw [if_neg hl, if_neg (show ¬ 0 < _ by rw [hcm.lost]; exact hl)]
          exact ⟨rfl, hcm.flushS (num_lt hn) hc.dueS⟩
      · rw [if_neg hn, if_neg hn]
        exact ⟨rfl, hcm⟩
omit hk hc in
theorem Sim.lose (n : Int) : Sim (DK.lose s n) (t.lose n) := ⟨h.lasts, h.q, rfl, h.down, h.armed, h.keep⟩
omit hk hc in
theorem Sim.arm (n : Int) (keep : List Int) : Sim (DK.arm s n keep) (t.arm n keep) := ⟨h.lasts, h.q, h.lost, h.down, rfl, fun g => by
  have g : 0 < n.toNat := g
  show keep = if 1 ≤ n then keep else []
  rw [if_pos (by omega)]⟩
omit hk hc in
theorem Sim.start : Sim (DK.start s) t.start := ⟨h.lasts, h.q, h.lost, rfl, h.armed, h.keep⟩
end
theorem cutQ_same (d : Nat → Bts) (f n : Nat) : ∀ (q : List Pd) (a b : Nat), Chain a (ofF f q) b → b ≤ (d f).length → (∀ p ∈ q, p.fr < p.un ∧ p.un ≤ (d p.file).length) →
    RS.cutQ f (n - a) (q.map fun p => (p.file, seg (d p.file) p)) = (((q.filter fun p => !(decide (p.file = f) && decide (n ≤ p.fr))).map fun p => if p.file = f then { p with un := min p.un n } else p).map fun p => (p.file, seg (upd d f ((d f).take n) p.file) p))
  | [], _, _, _, _, _ => rfl
  | p :: q, a, b, hch, hb, hq => by
    obtain ⟨p1, p2⟩ := hq p (by simp)
    have hq2 : ∀ p ∈ q, p.fr < p.un ∧ p.un ≤ (d p.file).length := fun x hx => hq x (by simp [hx])
    rw [ofF_cons] at hch
    rw [List.map_cons]
    unfold RS.cutQ
    dsimp only
    by_cases hf : p.file = f
    · rw [if_pos hf] at hch
      obtain ⟨c1, c2, c3⟩ := hch
      rw [if_pos hf, seg_len p2]
      have e : n - a - min (n - a) (p.un - p.fr) = n - p.un := by omega
      rw [e]
      have ih := cutQ_same d f n q p.un b c3 hb hq2
      by_cases hn : n ≤ p.fr
      · rw [show n - a = 0 by omega, List.take_zero, if_pos rfl, ih, List.filter_cons, if_neg (by simp [hf, hn])]
      · have hne : (seg (d p.file) p).take (n - a) ≠ [] := fun g => by
          have := congrArg List.length g
          rw [List.length_take, seg_len p2] at this
          simp at this
          omega
        rw [if_neg hne, ih, List.filter_cons, if_pos (by simp [hf]; omega), List.map_cons, List.map_cons, if_pos hf]
        congr 1
        show (p.file, _) = (p.file, _)
        congr 1
        show (seg (d p.file) p).take (n - a) = seg (upd d f ((d f).take n) p.file) { p with un := min p.un n }
        rw [hf, upd_same]
        unfold seg
        dsimp only
        rw [List.take_take, List.drop_take, List.take_take]
        congr 1
        omega
    · rw [if_neg hf] at hch
      have ih := cutQ_same d f n q a b hch hb hq2
      have hne : seg (d p.file) p ≠ [] := fun g => by
        have := congrArg List.length g
        rw [seg_len p2] at this
        simp at this
        omega
      rw [if_neg hf, if_neg hne, ih, List.filter_cons, if_pos (by simp [hf]), List.map_cons, List.map_cons, if_neg hf]
      congr 1
      rw [upd_other _ _ hf]
section
variable {s : St} {t : RS} (h : Sim s t) (hk : Ok s) (hc : Cov s)
include h hk hc
omit h in
theorem pos_q : ∀ p ∈ s.q, p.fr < p.un ∧ p.un ≤ (s.data p.file).length := fun p hp => by
  have hf := (hk.q p hp).1
  have hm : p ∈ ofF p.file s.q := List.mem_filter.2 ⟨hp, by simp⟩
  have := (chain_le (hc p.file hf)).2 p hm
  exact ⟨this.2.1, this.2.2⟩
theorem Sim.cutS {f n : Nat} (hf : f < 8) (hn : n ≤ (s.data f).length) : Sim (DK.cutS s f n) { t with lasts := upd t.lasts f ((t.lasts f).take n), q := RS.cutQ f (n - (t.lasts f).length) t.q } := by
  have hdl : (t.lasts f).length = s.dur f := by rw [h.lasts f hf, List.length_take]; have := hk.dur f hf; omega
  refine ⟨fun g hg => ?_, ?_, h.lost, h.down, h.armed, h.keep⟩
  · show upd t.lasts f ((t.lasts f).take n) g = (upd s.data f ((s.data f).take n) g).take (upd s.dur f (min (s.dur f) n) g)
    by_cases e : g = f
    · subst e
      rw [upd_same, upd_same, upd_same, h.lasts g hg, List.take_take, List.take_take]
      congr 1
      omega
    · rw [upd_other _ _ e, upd_other _ _ e, upd_other _ _ e]; exact h.lasts g hg
  · show RS.cutQ f (n - (t.lasts f).length) t.q = _
    rw [hdl, h.q]
    exact cutQ_same s.data f n s.q (s.dur f) (s.data f).length (hc f hf) (Nat.le_refl _) (pos_q hk hc)
theorem Sim.cut (f n : Int) : (t.cut f n).1 = (DK.cut s f n).1 ∧ Sim (DK.cut s f n).2 (t.cut f n).2 := by
  unfold RS.cut DK.cut
  dsimp only
  by_cases hd : s.down = true
  · rw [h.stay hd, h.down, if_pos hd, if_pos hd]
    exact ⟨rfl, h⟩
  · have hd0 : s.down = false := by simpa using hd
    rw [if_neg hd]
    have hcm := h.come0 hk hc hd0
    by_cases h1 : isDue s = true
    · rw [if_pos h1] at hcm
      rw [if_pos h1, if_pos (hcm.1.down.trans hcm.2)]
      exact ⟨rfl, hcm.1⟩
    · rw [if_neg h1] at hcm
      rw [if_neg h1, if_neg (show ¬ _ = true by rw [hcm.down]; exact hd)]
      by_cases hn : num f = true ∧ 0 ≤ n ∧ n ≤ (s.data f.toNat).length
      · rw [if_pos hn, if_pos (by rw [hcm.all hc.dueS (num_lt hn.1)]; exact hn)]
        exact ⟨rfl, hcm.cutS hk.dueS hc.dueS (num_lt hn.1) (show n.toNat ≤ (s.data f.toNat).length by omega)⟩
      · rw [if_neg hn, if_neg (fun g => hn (by
          rw [hcm.all hc.dueS (num_lt g.1)] at g
          exact g))]
        exact ⟨rfl, hcm⟩
theorem Sim.whole {g : Nat} (hg : g < 8) : ((t.all g).length ≠ (t.lasts g).length) ↔ s.q.any (fun p => decide (p.file = g)) = true := by
  have hdl : (t.lasts g).length = s.dur g := by rw [h.lasts g hg, List.length_take]; have := hk.dur g hg; omega
  rw [h.all hc hg, hdl]
  have hch := hc g hg
  cases hq : ofF g s.q with
  | nil =>
    rw [hq] at hch
    have e : s.dur g = (s.data g).length := hch
    rw [e]
    refine ⟨fun z => absurd rfl z, fun z => ?_⟩
    obtain ⟨p, hp, hpf⟩ := List.any_eq_true.1 z
    have : p ∈ ofF g s.q := List.mem_filter.2 ⟨hp, hpf⟩
    rw [hq] at this; cases this
  | cons p l =>
    rw [hq] at hch
    obtain ⟨c1, c2, c3⟩ := hch
    have c4 := (chain_le c3).1
    refine ⟨fun _ => ?_, fun _ => by omega⟩
    have : p ∈ ofF g s.q := by rw [hq]; exact List.mem_cons_self ..
    have hm := List.mem_filter.1 this
    exact List.any_eq_true.2 ⟨p, hm.1, hm.2⟩
theorem Sim.turn (f g : Int) : (t.turn f g).1 = (DK.turn s f g).1 ∧ Sim (DK.turn s f g).2 (t.turn f g).2 := by
  unfold RS.turn DK.turn
  dsimp only
  by_cases hd : s.down = true
  · rw [h.stay hd, h.down, if_pos hd, if_pos hd]
    exact ⟨rfl, h⟩
  · have hd0 : s.down = false := by simpa using hd
    rw [if_neg hd]
    have hcm := h.come0 hk hc hd0
    by_cases h1 : isDue s = true
    · rw [if_pos h1] at hcm
      rw [if_pos h1, if_pos (hcm.1.down.trans hcm.2)]
      exact ⟨rfl, hcm.1⟩
    · rw [if_neg h1] at hcm
      rw [if_neg h1, if_neg (show ¬ _ = true by rw [hcm.down]; exact hd)]
      by_cases hn : num f = true ∧ num g = true ∧ f ≠ g
      · rw [if_pos hn, if_pos hn]
        have hw := hcm.whole hk.dueS hc.dueS (num_lt hn.2.1)
        by_cases ha : s.q.any (fun p => decide (p.file = g.toNat)) = true
        · rw [if_pos ha, if_pos (hw.2 ha)]
          exact ⟨rfl, hcm⟩
        · rw [if_neg ha, if_neg (fun z => ha (hw.1 z))]
          refine ⟨rfl, fun k hk8 => ?_, ?_, hcm.lost, hcm.down, hcm.armed, hcm.keep⟩
          · show upd (upd _ f.toNat _) g.toNat [] k = (upd (upd s.data f.toNat (s.data g.toNat)) g.toNat [] k).take (upd (upd s.dur f.toNat (s.dur g.toNat)) g.toNat 0 k)
            by_cases e : k = g.toNat
            · subst e; rw [upd_same, upd_same, upd_same]; rfl
            · rw [upd_other _ _ e, upd_other _ _ e, upd_other _ _ e]
              by_cases e2 : k = f.toNat
              · subst e2; rw [upd_same, upd_same, upd_same]; exact hcm.lasts _ (num_lt hn.2.1)
              · rw [upd_other _ _ e2, upd_other _ _ e2, upd_other _ _ e2]; exact hcm.lasts k hk8
          · show (t.comes 0 []).q.filter _ = (s.q.filter _).map _
            rw [hcm.q, List.filter_map]
            show ((s.q.filter _).map _) = _
            refine List.map_congr_left fun p hp => ?_
            obtain ⟨hp1, hp2⟩ := List.mem_filter.1 hp
            have e1 : p.file ≠ f.toNat := by simpa using hp2
            have e2 : p.file ≠ g.toNat := fun e => ha (List.any_eq_true.2 ⟨p, hp1, by simpa using e⟩)
            show (p.file, seg (s.data p.file) p) = (p.file, seg (upd (upd s.data f.toNat (s.data g.toNat)) g.toNat [] p.file) p)
            rw [upd_other _ _ e2, upd_other _ _ e1]
      · rw [if_neg hn, if_neg hn]
        exact ⟨rfl, hcm⟩
end
end DK
end Go.Proofs.Ytmnimcdbfolhaaa
