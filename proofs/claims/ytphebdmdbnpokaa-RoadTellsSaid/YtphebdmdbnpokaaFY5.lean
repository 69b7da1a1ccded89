/- Joined of: FY5. -/
import Derived.Test.YtphebdmdbnpokaaG03
/- The walk of the reference's augment. -/
set_option linter.unusedSimpArgs false
set_option linter.unusedVariables false
namespace Go.Proofs.Ytphebdmdbnpokaa.FL
open Go.RowKit FM
attribute [local go_sem] alloc_drewN setCell_drewN shape_drewN

def AugRSaid (w : World) (A : List Arc) (L : List Int) (s t : Int) (gF : Nat) (e : Ending) (w' : World) : Prop :=
  ∃ (m : Int) (L' : List Int), e = .returned (.tuple #[]) ∧ 0 < m ∧ Res A L' ∧ (∀ u, exc A (flowOf A L') u = exc A (flowOf A L) u + ind (s == u) m - ind (t == u) m) ∧ Arr w' gF A.length (flowV L') ∧ Keeps w.heap.size (· = gF) w w'
theorem flowV_push {A : List Arc} {L : List Int} {e : Nat} {m : Int} (hr : Res A L) (he : e < 2 * A.length) : flowV (push1 L e m) = updF (flowV L) (e / 2) (.int .i64 (if e % 2 = 0 then L.getD (2 * (e / 2) + 1) 0 + m else L.getD (2 * (e / 2) + 1) 0 - m)) := by
  have hl := hr.len
  funext j
  unfold flowV updF
  by_cases hj : j = e / 2
  · subst hj
    rw [if_pos rfl]
    congr 1
    rcases Nat.mod_two_eq_zero_or_one e with p | p
    · rw [if_pos p]
      have e1 : 2 * (e / 2) + 1 = mate e := by unfold mate; rw [if_pos p]; omega
      rw [e1]
      unfold push1
      have hml := mate_lt he
      simp [List.getD_eq_getElem?_getD, List.getElem?_set, hl, hml]
    · rw [if_neg (by omega)]
      have e1 : 2 * (e / 2) + 1 = e := by omega
      rw [e1]
      unfold push1
      have hne := mate_ne e
      simp [List.getD_eq_getElem?_getD, List.getElem?_set, hl, he, hne]
  · rw [if_neg hj, push1_other _ _ _ _ (by omega) (by unfold mate; split <;> omega)]

set_option maxHeartbeats 4000000 in
set_option maxRecDepth 10000 in
theorem raugment_any (C : Option Addr) (cc : Nat) (A : List Arc) (g n c s t gF : Nat) (by_ : Int → Int) (q : List Int) (L : List Int) (w : World) (hC : ArcsAt w w.heap.size C A) (hG : Arr w g n (byV by_)) (hF : Arr w gF A.length (flowV L)) (hg : g < w.heap.size) (hgF : gF < w.heap.size) (hne : g ≠ gF) (hCF : ∀ b off, C = some ⟨b, off, none⟩ → b ≠ gF)
    (hR : Res A L) (hQ : Found1 n A L s by_ q) (hA : inN n A) (hm : A.length ≤ 4096) (hn : n ≤ 256) (ht : t < n) (hb : by_ t ≠ -2) (hcap : ∀ a ∈ A, 0 ≤ a.2.2 ∧ a.2.2 ≤ 1125899906842624) :
    Calls Try.prog 43 #[.slice C A.length cc, .slice (some ⟨g, 0, none⟩) n c, .int .i64 t, .slice (some ⟨gF, 0, none⟩) A.length A.length] w (AugRSaid w A L s t gF) := by
  have htq : (t : Int) ∈ q := (hQ.r.iff t (by omega) (by omega)).1 hb
  obtain ⟨jt, hjt, hjq⟩ := List.getElem_of_mem htq
  have hjq : q[jt]? = some (t : Int) := by rw [List.getElem?_eq_getElem hjt, hjq]
  have hdone : ∀ (j : Nat) v, q[j]? = some v → by_ v < 0 → j = 0 := fun j v hj hv => by
    rcases Nat.eq_zero_or_pos j with h | h
    · exact h
    · obtain ⟨e, he, _⟩ := hQ.r.par j v h hj
      omega
  go_enter Try.func43, Try.ntmps43
  go_wp2_with fail
  go_loopg [8, 9] jt (fun jj mm vv wr => ∃ (m : Int) (v : Nat), q[jj]? = some (v : Int) ∧ vv = .int .i64 v ∧ mm = .int .i64 m ∧ 0 < m ∧ m ≤ 1125899906842624 ∧ v < n ∧ Hid (Sofar A L by_ t m v) ∧ Below w.heap.size w wr)
  case atStart => exact ⟨1125899906842624, t, hjq, rfl, rfl, by omega, by omega, ht, Sofar.begin _ _ _ _ _, Below.refl _ _⟩
  case round =>
    obtain ⟨m, v, hq0, rfl, rfl, hm0, hm1, hvn, hSo, hbr⟩ := hrel
    have hGr := hG.below hbr hg
    have hFr := hF.below hbr hgF
    obtain ⟨mv, _⟩ := hGr v hvn
    simp only [byV] at mv
    by_cases hneg : by_ v < 0
    · have hj0 := hdone gk v hq0 hneg
      have hall := Lib.hid (hSo.out.all hneg)
      obtain ⟨d, hd⟩ : ∃ d, d = by_ v := ⟨_, rfl⟩
      rw [← hd] at mv hneg
      clear hd hq0
      go_wp2_with fail
      go_loopg [11, 12] jt (fun jj vv _ii wr2 => ∃ (v : Nat) (L' : List Int), q[jj]? = some (v : Int) ∧ vv = .int .i64 v ∧ v < n ∧ Hid (Aug1 A q t m L L' jj v) ∧ Hid (∀ f, Good1 A L by_ m f v) ∧ Arr wr2 gF A.length (flowV L') ∧ Keeps w.heap.size (· = gF) w wr2)
      case atStart => exact ⟨t, L, hjq, rfl, ht, Aug1.begin hR hjq, fun f => by { obtain ⟨k, hk, hg⟩ := hall.out f; exact Good1.mono hk hg }, hFr, Keeps.of_below hbr⟩
      case round =>
        clear hGr hFr mv hneg hbr hSo
        obtain ⟨v, L', hq0, rfl, hvn, hAug, hGood, hFr, hK⟩ := hrel
        have hGr : Arr wr g n (byV by_) := hG.keep (hK.block g hg hne)
        have hCr : ArcsAt wr w.heap.size C A := fun hmm => by
          obtain ⟨b, off, e, hb, hc⟩ := hC hmm
          exact ⟨b, off, e, hb, fun j hj => (hK.cell (p := ⟨b, off + j, none⟩) hb (hCF b off e)).trans (hc j hj)⟩
        obtain ⟨mv, _⟩ := hGr v hvn
        simp only [byV] at mv
        by_cases hneg : by_ v < 0
        · have hj0 := hdone gk v hq0 hneg
          subst hj0
          have hvs : (v : Int) = s := by
            have := hQ.r.head
            rw [hq0] at this
            exact Option.some.inj this
          have Hvs := Lib.hid hvs
          obtain ⟨d, hd⟩ : ∃ d, d = by_ v := ⟨_, rfl⟩
          rw [← hd] at mv hneg
          clear hd hq0 hvs
          go_wp2_with fail
          go_end0
          refine ⟨m, L', rfl, hm0, hAug.out.res, fun x => ?_, hFr, hK⟩
          have h := hAug.out.exc x
          rw [Hvs.out] at h
          exact h
        · have hjpos : 0 < gk := by
            rcases Nat.eq_zero_or_pos gk with h | h
            · subst h
              have := hQ.r.head
              rw [hq0] at this
              have e1 := Option.some.inj this
              rw [e1, hQ.r.src] at hneg
              omega
            · exact h
          obtain ⟨e, he⟩ := Int.eq_ofNat_of_zero_le (show 0 ≤ by_ v by omega)
          have hgd := (hGood.out 1).down he
          obtain ⟨i', u, hi', hfu, hel, hsame, hstep⟩ := hAug.out.step hQ.r hjpos he (by omega) hgd.1
          have hng : ∀ f, Good1 A L by_ m f u := fun f => by
            have := ((hGood.out (f + 1)).down he).2
            rw [hfu] at this; exact this
          rw [he] at mv
          have hur := hQ.r.rng u (List.mem_of_getElem? hstep.at_)
          obtain ⟨u, rfl⟩ := Int.eq_ofNat_of_zero_le hur.1
          obtain ⟨i, hi⟩ : ∃ i, i = e / 2 := ⟨_, rfl⟩
          have hil : i < A.length := by omega
          have hi3 : 0 ≤ (i : Int) ∧ (i : Int) < (A.length : Int) := by omega
          obtain ⟨cf, cff⟩ := hFr i hil
          simp only [flowV] at cf
          obtain ⟨f, hf⟩ : ∃ f, f = L'.getD (2 * i + 1) 0 := ⟨_, rfl⟩
          have hfb : 0 ≤ f ∧ f ≤ 1125899906842624 := by rw [hf]; exact ⟨hAug.out.res.nonneg _, res_le (by omega) (fun a ha => (hcap a ha).2) hAug.out.res _⟩
          rw [← hf] at cf
          have hfp := flowV_push (m := m) hAug.out.res hel
          rw [← hi, ← hf] at hfp
          have hun : u < n := by omega
          have kb : ∀ x : Int, Calls Try.prog 53 #[.slice C A.length cc, .slice (some ⟨g, 0, none⟩) n c, .int .i64 v] (wr.setCell ⟨gF, i, none⟩ (.int .i64 x)) (fun e' w' => e' = .returned (.int .i64 (u : Int)) ∧ Below wr.heap.size (wr.setCell ⟨gF, i, none⟩ (.int .i64 x)) w') := fun x => by
            have hCx : ArcsAt (wr.setCell ⟨gF, i, none⟩ (.int .i64 x)) w.heap.size C A := fun hmm => by
              obtain ⟨b, off, e, hb, hc⟩ := hCr hmm
              exact ⟨b, off, e, hb, fun j hj => (cset_other (fun q => by injection q with q1 q2; exact hCF b off e q1.symm)).trans (hc j hj)⟩
            have h := before_any C cc A g n c v e by_ (wr.setCell ⟨gF, i, none⟩ (.int .i64 x)) hCx (hGr.far (p := ⟨gF, i, none⟩) hne _) hvn he hel hm hn
            unfold BeforeSaid at h
            rw [hfu] at h
            simpa using h
          have KB := Lib.hid kb
          have HX := Lib.hid (And.intro hfp (And.intro hstep (And.intro hng hi')))
          have hset := fun (x : Int) => hFr.set hil (.int .i64 x)
          have hKs := fun (x : Int) => hK.setCell (p := ⟨gF, i, none⟩) (.inr rfl) (.int .i64 x)
          have Hset := Lib.hid (And.intro hset hKs)
          have hgs : gF < wr.heap.size := Nat.lt_of_lt_of_le hgF hK.size
          clear kb hset hKs hfp hstep hng hi' hfu hgd hsame hdone hneg
          rcases Nat.mod_two_eq_zero_or_one e with p | p
          · obtain rfl : e = 2 * i := by omega
            rw [show ((2 * i : Nat) : Int) = 2 * (i : Int) by omega] at mv
            have e1 : 2 * (i : Int) / 2 = (i : Int) := by omega
            have e2 : 2 * (i : Int) % 2 = 0 := by omega
            have e3 : 0 ≤ 2 * (i : Int) := by omega
            have Hp := Lib.hid p
            clear he hel hi p hf hq0 hAug hGood hFr hK
            go_wp2_with (go_at_call 53; ((with_reducible refine (KB.out _).mono ?_); rintro e5 w5 ⟨rfl, hb5⟩))
            obtain ⟨hfp, hstep, hng, hi'⟩ := HX.out
            rw [if_pos Hp.out] at hfp
            go_roundg i'
            case measure => exact hi'
            case rel => exact ⟨u, _, hstep.at_, rfl, hun, hstep, hng, by rw [hfp]; exact (Hset.out.1 _).keep (hb5.block gF (by simpa using hgs)), (Hset.out.2 _).trans (Keeps.mono (Keeps.of_below hb5) (by simpa using (Hset.out.2 0).size) (fun _ _ h => h))⟩
          · obtain rfl : e = 2 * i + 1 := by omega
            rw [show ((2 * i + 1 : Nat) : Int) = 2 * (i : Int) + 1 by omega] at mv
            have e1 : (2 * (i : Int) + 1) / 2 = (i : Int) := by omega
            have e2 : (2 * (i : Int) + 1) % 2 = 1 := by omega
            have e3 : 0 ≤ 2 * (i : Int) + 1 := by omega
            have Hp := Lib.hid p
            clear he hel hi p hf hq0 hAug hGood hFr hK
            go_wp2_with (go_at_call 53; ((with_reducible refine (KB.out _).mono ?_); rintro e5 w5 ⟨rfl, hb5⟩))
            obtain ⟨hfp, hstep, hng, hi'⟩ := HX.out
            rw [if_neg (by have := Hp.out; omega)] at hfp
            go_roundg i'
            case measure => exact hi'
            case rel => exact ⟨u, _, hstep.at_, rfl, hun, hstep, hng, by rw [hfp]; exact (Hset.out.1 _).keep (hb5.block gF (by simpa using hgs)), (Hset.out.2 _).trans (Keeps.mono (Keeps.of_below hb5) (by simpa using (Hset.out.2 0).size) (fun _ _ h => h))⟩
    · have hjpos : 0 < gk := by
        rcases Nat.eq_zero_or_pos gk with h | h
        · subst h
          have := hQ.r.head
          rw [hq0] at this
          have e1 := Option.some.inj this
          rw [e1, hQ.r.src] at hneg
          omega
        · exact h
      obtain ⟨e, he, hel, _, hpos, i', u, hi', hu, hfu⟩ := hQ.r.par gk v hjpos hq0
      rw [he] at mv
      have hur := hQ.r.rng u (List.mem_of_getElem? hu)
      obtain ⟨u, rfl⟩ := Int.eq_ofNat_of_zero_le hur.1
      obtain ⟨i, hi⟩ : ∃ i, i = e / 2 := ⟨_, rfl⟩
      have hil : i < A.length := by omega
      obtain ⟨b, off, x, y, z, hCe, hbb, ha, c0, c1, c2⟩ := (hC.below hbr).at_ hil
      have hr2 := res_two hR ha.out
      have hr2 : L.getD (2 * i) 0 + L.getD (2 * i + 1) 0 = z := hr2
      have hcz := hcap _ (List.mem_of_getElem? ha.out)
      have hcz : 0 ≤ z ∧ z ≤ 1125899906842624 := hcz
      have hn0 := hR.nonneg (2 * i)
      have hn1 := hR.nonneg (2 * i + 1)
      obtain ⟨cf, _⟩ := hFr i hil
      simp only [flowV] at cf
      obtain ⟨f, hf⟩ : ∃ f, f = L.getD (2 * i + 1) 0 := ⟨_, rfl⟩
      rw [← hf] at cf hr2 hn1
      have hi3 : 0 ≤ (i : Int) ∧ (i : Int) < (A.length : Int) := by omega
      have kb : ∀ mm : Nat, Calls Try.prog 53 #[.slice C A.length cc, .slice (some ⟨g, 0, none⟩) n c, .int .i64 v] (wr.drewN mm) (fun e' w' => e' = .returned (.int .i64 (u : Int)) ∧ Below (wr.drewN mm).heap.size (wr.drewN mm) w') := fun mm => by
        have h := before_any C cc A g n c v e by_ (wr.drewN mm) ((hC.below hbr).keep (fun _ _ _ => rfl)) (hGr.drewN mm) hvn he hel hm hn
        unfold BeforeSaid at h
        rw [hfu] at h
        exact h
      have KB := Lib.hid kb
      have HV := Lib.hid (And.intro he (And.intro hel (And.intro hf (And.intro hu (And.intro hi' (And.intro hq0 hfu))))))
      have hun : u < n := by omega
      clear kb hdone hfu
      subst hCe
      rcases Nat.mod_two_eq_zero_or_one e with p | p
      · obtain rfl : e = 2 * i := by omega
        have hlt : L.getD (2 * i) 0 = z - f := by omega
        have hstep := fun (m2 : Int) (h1 : m2 ≤ m) (h2 : m2 ≤ z - f) => hSo.out.step (e := 2 * i) he h1 (by omega)
        rw [show ((2 * i : Nat) : Int) = 2 * (i : Int) by omega] at mv
        have hzf : 0 < z - f := by omega
        obtain ⟨m2, hm2⟩ : ∃ m2, (if z - f < m then z - f else m) = m2 := ⟨_, rfl⟩
        have hm2' : min m (z - f) = m2 := by omega
        have hm3' : min (z - f) m = m2 := by omega
        have hm2b : 0 < m2 ∧ m2 ≤ m ∧ m2 ≤ z - f := by omega
        have Hst := Lib.hid (hstep m2 hm2b.2.1 hm2b.2.2)
        have e1 : 2 * (i : Int) / 2 = (i : Int) := by omega
        have e2 : 2 * (i : Int) % 2 = 0 := by omega
        have e3 : 0 ≤ 2 * (i : Int) := by omega
        have wr1 : IntKind.i64.wrap (z - f) = z - f := IntWalk.i64_in _ (by omega)
        clear he hel hpos hi' hu hq0 hi p hr2 hn0 hn1 hf hlt hstep hSo hneg
        go_upto_region 6 with fail
        go_quiet (fail)
        clear wr1
        go_wp2_with (go_at_call 53; ((with_reducible refine (KB.out _).mono ?_); rintro e5 w5 ⟨rfl, hb5⟩))
        obtain ⟨he, hel, hf, hu, hi', hq0, hfu⟩ := HV.out
        go_roundg i'
        case measure => exact hi'
        case rel => exact ⟨m2, u, hu, rfl, rfl, hm2b.1, by omega, hun, by rw [hfu] at Hst; exact Hst, (below_drewN hbr _).trans (hb5.mono hbr.size)⟩
      · obtain rfl : e = 2 * i + 1 := by omega
        have hstep := fun (m2 : Int) (h1 : m2 ≤ m) (h2 : m2 ≤ f) => hSo.out.step (e := 2 * i + 1) he h1 (by omega)
        rw [show ((2 * i + 1 : Nat) : Int) = 2 * (i : Int) + 1 by omega] at mv
        have hzf : 0 < f := by omega
        obtain ⟨m2, hm2⟩ : ∃ m2, (if f < m then f else m) = m2 := ⟨_, rfl⟩
        have hm2' : min m f = m2 := by omega
        have hm3' : min f m = m2 := by omega
        have hm2b : 0 < m2 ∧ m2 ≤ m ∧ m2 ≤ f := by omega
        have Hst := Lib.hid (hstep m2 hm2b.2.1 hm2b.2.2)
        have e1 : (2 * (i : Int) + 1) / 2 = (i : Int) := by omega
        have e2 : (2 * (i : Int) + 1) % 2 = 1 := by omega
        have e3 : 0 ≤ 2 * (i : Int) + 1 := by omega
        have kb0 := KB.out 0
        have KB0 := Lib.hid kb0
        clear he hel hpos hi' hu hq0 hi p hr2 hn0 hn1 hf hstep hSo hneg kb0
        go_wp2_with (go_at_call 53; (refine KB0.out.mono ?_; rintro e5 w5 ⟨rfl, hb5⟩))
        obtain ⟨he, hel, hf, hu, hi', hq0, hfu⟩ := HV.out
        go_roundg i'
        case measure => exact hi'
        case rel => exact ⟨m2, u, hu, rfl, rfl, hm2b.1, by omega, hun, by rw [hfu] at Hst; exact Hst, hbr.trans (hb5.mono hbr.size)⟩
end Go.Proofs.Ytphebdmdbnpokaa.FL

