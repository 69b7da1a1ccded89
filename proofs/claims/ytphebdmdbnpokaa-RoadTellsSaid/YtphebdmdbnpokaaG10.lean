/- Joined of: FM1 FP1. -/
import Derived.Deep.LoopGhost
import Derived.BigRegion
import Derived.BigQuiet
import Derived.Laws.BitsAllLaws
import Derived.Test.YtphebdmdbnpokaaG05
/- The walk of network.measure: a search by levels. -/
set_option linter.unusedSimpArgs false
set_option linter.unusedVariables false
namespace Go.Proofs.Ytphebdmdbnpokaa.FL
open Go.RowKit FM

theorem info3 : (Try.prog.info? 3).map (fun i => (i.zero, i.size, i.bytes)) = some (some (.int .i64 0), 1, 8) := by kernel_rfl
theorem outs_len (A : List Arc) (v : Int) : (outs A v).length ≤ 2 * A.length := Nat.le_trans (List.length_filter_le _ _) (by simp)
theorem row_step {w : World} {base g u : Nat} {v x : Value} {l : List Value} (h : RowAt w base 3 v l) (hg : g < base) (o : Obj) : RowAt (((w.setCell ⟨g, u, none⟩ x).alloc o).drew) base 3 v l :=
  h.keep fun k h1 h2 => (Below.heap_alloc (w.setCell ⟨g, u, none⟩ x) o k (by simpa using h2)).trans (Below.heap_setCell w ⟨g, u, none⟩ x k (by show k ≠ g; omega))
theorem visit_net {w w0 wr w' : World} {B M n u : Nat} {A : List Arc} {a : NA} {L : List Int} {D : Int → Int} {y : Value} (hN : Net wr B M n A a L D) (hu : u < n) (x : Int) (hM : M ≤ w.heap.size) (hs : w.heap.size ≤ wr.heap.size)
    (k : Grew w.heap.size w0 w')
    (e : w0 = ((wr.setCell ⟨a.gD, u, none⟩ (.int .i64 x)).alloc (.cells #[y] 3)).drew := by rfl) : Net w' B M n A a L (updI D u x) := by
  subst e
  exact (hN.setD hu x).keep fun b hb => (k.block b (by simp; omega) (by omega)).trans (Below.heap_alloc _ _ b (by simp; omega))
theorem visit_keeps {w w0 wr w' : World} {g : Nat} (hK : Keeps w.heap.size (· = g) w wr) (u : Nat) (x : Int) {y : Value}
    (k : Grew w.heap.size w0 w')
    (e : w0 = ((wr.setCell ⟨g, u, none⟩ (.int .i64 x)).alloc (.cells #[y] 3)).drew := by rfl) : Keeps w.heap.size (· = g) w w' := by
  subst e
  have hs := hK.size
  exact (((hK.setCell (p := ⟨g, u, none⟩) (.inr rfl) (.int .i64 x)).alloc (by simpa using hs) (.cells #[y] 3)).drew).step (by simp; omega) k
def minusTo (D : Int → Int) (k : Nat) : Int → Int := fun u => if u < k then -1 else D u

set_option maxHeartbeats 1000000 in
set_option maxRecDepth 10000 in
theorem measure_any {w : World} {B M n : Nat} {A : List Arc} {a : NA} {L : List Int} {D : Int → Int} (s : Nat) (hN : Net w B M n A a L D) (hM : M ≤ w.heap.size) (hs : s < n) (hn : n ≤ 256) (hA : inN n A) (hm : A.length ≤ 4096) :
    Calls Try.prog 47 #[.pointer (some ⟨a.X, 0, none⟩), .int .i64 s] w fun e w' => e = .returned (.tuple #[]) ∧ ∃ D', Net w' B M n A a L D' ∧ BfsO n A L s D' [] ∧ Keeps w.heap.size (· = a.gD) w w' := by
  obtain ⟨i0, hi, hz0, hz1, hz2⟩ := info_parts info3
  have hx2 := hN.x2
  have hgD := hN.hi.2.2
  go_enter Try.func47, Try.ntmps47
  go_wp2
  go_loopw [15] (fun i wr => ∃ k : Nat, k ≤ n ∧ i = .int .i64 k ∧ Net wr B M n A a L (minusTo D k) ∧ Keeps w.heap.size (· = a.gD) w wr) (fun i _ => n - (intOf i).toNat)
  case atStart => exact ⟨0, Nat.zero_le _, rfl, hN.congrD (fun v _ => by simp [minusTo]; omega), Keeps.refl _ _ _⟩
  case round =>
    obtain ⟨k, hk, rfl, hNr, hKr⟩ := hrel
    have hx2r := hNr.x2
    by_cases hlt : k < n
    · obtain ⟨hd, hf⟩ := hNr.dist k hlt
      have hnext := hNr.setD hlt (-1)
      go_wp2
      go_roundw
      case rel => exact ⟨k + 1, by omega, by go_num, hnext.congrD (fun v _ => by simp only [updI, minusTo]; split <;> split <;> omega), hKr.setCell (.inr rfl) _⟩
      case measure => simp [intOf]; omega
    · obtain rfl : n = k := by omega
      have hD := hNr.congrD (D' := fun _ => -1) (fun v hv => by simp [minusTo, hv])
      obtain ⟨hd, hf⟩ := hD.dist s hs
      have hO := BfsO.begin (A := A) (L := L) (s := (s : Int)) (n := n) (by omega) (by omega)
      have hN0 := hD.setD hs 0
      have hK0 := hKr.setCell (p := ⟨a.gD, s, none⟩) (.inr rfl) (.int .i64 0)
      clear hD hNr hKr
      go_wp2
      go_loopg [5] n (fun g v wq => ∃ Q D', (g : Int) = n - cnt n D' + Q.length ∧ g ≤ n ∧ RowAt wq w.heap.size 3 v (Q.map (Value.int .i64)) ∧ BfsO n A L s D' Q ∧ Net wq B M n A a L D' ∧ Keeps w.heap.size (· = a.gD) w wq)
      case atStart =>
        have hc := cnt_upd n (fun _ => -1) s 0 (by omega) (by omega) (by omega) (by omega)
        rw [cnt_none] at hc
        have hsz := hK0.size
        exact ⟨[(s : Int)], _, by rw [hc]; simp, Nat.le_refl _, rowAt_one 3 _ (by simp) (by simpa using hsz), hO, hN0.alloc (by omega) _, hK0.alloc (by omega) _⟩
      case round =>
        obtain ⟨Q, D', hg, hgn, hrow, hO, hNq, hKq⟩ := hrel
        cases Q with
        | nil =>
          obtain ⟨ao, c, rfl⟩ := hrow.nil
          go_wp2
          go_end0
          exact ⟨rfl, D', hNq, hO, hKq⟩
        | cons v Q =>
          obtain ⟨v, rfl⟩ := Int.eq_ofNat_of_zero_le (hO.lev.rng v (hO.q v (by simp))).1
          have hv := (hO.lev.rng v (hO.q v (by simp))).2
          have hv : v < n := by omega
          obtain ⟨qg, qo, qc, q1, rfl, hq1, hq4, hq5, hsl⟩ := hrow.tail (P := Try.prog) 29 Try.underlying29 (fun wx => by go_simp)
          have hI : Hid (BfsI n A L s D' v Q 0) := hO.pop
          have hgQ : Hid ((gk : Int) = n - cnt n D' + (Q.length + 1)) := by have hg2 := hg; simp at hg2; exact hg2
          have hlen : (Q.map (Value.int .i64)).length = Q.length := by simp
          rw [hlen] at hsl ⊢
          clear hO hg hrow hlen
          have hx1 := hNq.x1
          have hro := hNq.out v hv
          obtain ⟨ao, rc, hre0, _⟩ := hNq.row v hv
          have hre := Lib.hid hre0
          rw [hre0] at hro
          clear hre0
          go_wp2
          go_loopw [5, 49] (fun v5 i wi => ∃ (k : Nat) (Q' : List Int) (D'' : Int → Int), k ≤ (outs A v).length ∧ i = .int .i64 k ∧ BfsI n A L s D'' v Q' k ∧ (gk : Int) = n - cnt n D'' + (Q'.length + 1) ∧ RowAt wi w.heap.size 3 v5 (Q'.map (Value.int .i64)) ∧ Net wi B M n A a L D'' ∧ Keeps w.heap.size (· = a.gD) w wi) (fun _ i _ => (outs A v).length - (intOf i).toNat)
          case atStart => exact ⟨0, Q, D', Nat.zero_le _, rfl, hI.out, hgQ.out, hq5, hNq, hKq⟩
          case round =>
            clear hI hgQ hq5 hNq hKq hx1 hro hq1 hq4 hsl
            obtain ⟨k, Q', D'', hk, rfl, hI, hgQ, hrow, hNi, hKi⟩ := hrel
            by_cases hlt : k < (outs A v).length
            · obtain ⟨e, he⟩ : ∃ e, (outs A v)[k]? = some e := ⟨_, List.getElem?_eq_getElem hlt⟩
              have hel := (mem_outs.1 (List.mem_of_getElem? he)).1
              have hol : (outs A v).length ≤ 8192 := by have := outs_len A v; omega
              obtain ⟨i1, i2, i3, i4⟩ := inN_ends hA e hel
              obtain ⟨u, hu⟩ := Int.eq_ofNat_of_zero_le i3
              have hun : u < n := by omega
              obtain ⟨ao2, rc2, hre2, hrc2⟩ := hNi.row v hv
              rw [hre.out] at hre2
              obtain ⟨g, o, hao, hg1, hg2, hg3, hg4, hrcell⟩ := hrc2 k e he
              injection hre2 with hr1 hr2 hr3
              subst hr1
              subst hao
              obtain ⟨p1, p2, ce0, ce1, cef⟩ := hNi.edge e hel
              have hx0 := hNi.x0
              have hx2 := hNi.x2
              rw [p1] at hx0
              obtain ⟨cd, cdf⟩ := hNi.dist u hun
              obtain ⟨cv, _⟩ := hNi.dist v hv
              rw [hu] at ce0
              have hdr : D'' v + 1 ≤ 9223372036854775807 ∧ -1 ≤ D'' v := by have := hI.lev.hi v; have := hI.lev.lo v; have := cnt_le n D''; omega
              obtain ⟨x, hx⟩ : ∃ x, x = L.getD e 0 := ⟨_, rfl⟩
              rw [← hx] at ce1
              obtain ⟨d, hd⟩ : ∃ d, d = D'' u := ⟨_, rfl⟩
              rw [← hd] at cd
              obtain ⟨dv, hdv⟩ : ∃ dv, dv = D'' v := ⟨_, rfl⟩
              rw [← hdv] at cv hdr
              have F := Lib.hid (And.intro hx (And.intro hd (And.intro hdv (And.intro hu (And.intro he hI)))))
              clear hx hd hdv hu he hI hrc2 hr2 hr3
              by_cases g1 : 0 < x
              case neg =>
                go_wp2
                obtain ⟨hx, hd, hdv, hu, he, hI⟩ := F.out
                go_roundw
                case rel => exact ⟨k + 1, Q', D'', by omega, by go_num, hI.pass he (.inl (by omega)), hgQ, hrow, hNi, hKi⟩
                case measure => simp [intOf]; omega
              by_cases g2 : d < 0
              case neg =>
                go_wp2
                obtain ⟨hx, hd, hdv, hu, he, hI⟩ := F.out
                go_roundw
                case rel => exact ⟨k + 1, Q', D'', by omega, by go_num, hI.pass he (.inr (by rw [hu]; omega)), hgQ, hrow, hNi, hKi⟩
                case measure => simp [intOf]; omega
              go_wp2
              go_region
              have hc := (cnt_le n D'').2
              go_wp2_with (at_builtin; refine wpList_append_row rfl (.tmp 94) (.tmp 96) 29 rfl w.heap.size 3 i0 (.int .i64 0) 8 Try.underlying29 hi hz0 hz1 hz2 rfl _ (Q'.map (Value.int .i64)) rfl ?c1 ⟨wr.heap.size, 0, none⟩ 1 1 [.int .i64 u] rfl rfl ?c2 ?c3 (by decide) ?c4 ?c5 ?c6 ?_)
              case c1 => exact row_step hrow (by omega) _
              case c2 => exact one_new _ _ (by simp)
              case c3 => intro u hu; simp at hu; subst hu; rfl
              case c4 => simp; unfold maxLen; omega
              case c5 => simp; omega
              case c6 => have := hKi.size; simp; omega
              intro v' w' hrow' hstep
              have hN3 := visit_net hNi hun (dv + 1) hM hKi.size hstep
              have hK3 := visit_keeps hKi u (dv + 1) hstep
              clear hstep hrow hNi hKi
              go_wp2
              obtain ⟨hx, hd, hdv, hu, he, hI⟩ := F.out
              have hI2 := hI.visit hA he (by omega) (by rw [hu]; omega)
              have hcn := cnt_upd n D'' u (D'' v + 1) (by omega) (by omega) (by omega) (by omega)
              rw [hu] at hI2
              rw [hdv] at hN3
              go_roundw
              case rel => exact ⟨k + 1, Q' ++ [(u : Int)], updI D'' u (D'' v + 1), by omega, by go_num, hI2, by simp; omega, by simpa using hrow', hN3, hK3⟩
              case measure => simp [intOf]; omega
            · go_wp2
              have hc := (cnt_le n D'').2
              go_roundg (gk - 1)
              case measure => omega
              case rel => exact ⟨Q', D'', by omega, by omega, hrow, hI.finish (by omega), hNi, hKi⟩
end Go.Proofs.Ytphebdmdbnpokaa.FL

/- The walk of the search that network.augment makes a function of. -/
namespace Go.Proofs.Ytphebdmdbnpokaa.FL
open Go.RowKit FM
attribute [local go_sem] alloc_drewN setCell_drewN shape_drewN

/-- What the search finds at hand: the captured variables, and the counters of the edges that are tried. -/
structure EA where
  bt : Nat
  btr : Nat
  bx : Nat
  bp : Nat
  gT : Nat
def EA.caps (b : EA) : Array Value := #[.pointer (some ⟨b.bt, 0, none⟩), .pointer (some ⟨b.btr, 0, none⟩), .pointer (some ⟨b.bx, 0, none⟩), .pointer (some ⟨b.bp, 0, none⟩)]
structure Env (w : World) (M n X : Nat) (b : EA) (t : Nat) (tr : Int → Nat) : Prop where
  lo : M ≤ b.bt ∧ M ≤ b.btr ∧ M ≤ b.bx ∧ M ≤ b.bp ∧ M ≤ b.gT
  ne : b.bt ≠ b.gT ∧ b.btr ≠ b.gT ∧ b.bx ≠ b.gT ∧ b.bp ≠ b.gT
  ct : w.cell? ⟨b.bt, 0, none⟩ = some (.int .i64 t)
  ctr : w.cell? ⟨b.btr, 0, none⟩ = some (.slice (some ⟨b.gT, 0, none⟩) n n)
  cx : w.cell? ⟨b.bx, 0, none⟩ = some (.pointer (some ⟨X, 0, none⟩))
  cp : w.cell? ⟨b.bp, 0, none⟩ = some (.func (.func 55) #[] b.caps)
  tried : ∀ v, v < n → w.cell? ⟨b.gT, v, none⟩ = some (.int .i64 (tr v)) ∧ w.frozen? ⟨b.gT, v, none⟩ = false
section
variable {w : World} {M n X t : Nat} {b : EA} {tr : Int → Nat}
theorem Env.drewN (h : Env w M n X b t tr) (m : Nat) : Env (w.drewN m) M n X b t tr := ⟨h.lo, h.ne, h.ct, h.ctr, h.cx, h.cp, h.tried⟩
theorem Env.setOld (h : Env w M n X b t tr) {p : Addr} (hp : p.block < M) (u : Value) : Env (w.setCell p u) M n X b t tr := by
  obtain ⟨l1, l2, l3, l4, l5⟩ := h.lo
  have hc : ∀ g o, M ≤ g → (w.setCell p u).cell? ⟨g, o, none⟩ = w.cell? ⟨g, o, none⟩ := fun g o hg => cset_other (fun e => by subst e; simp at hp; omega)
  have hf : ∀ g o, (w.setCell p u).frozen? ⟨g, o, none⟩ = w.frozen? ⟨g, o, none⟩ := fun g o => World.frozen?_setCell _ _ _ _
  exact ⟨h.lo, h.ne, (hc _ _ l1).trans h.ct, (hc _ _ l2).trans h.ctr, (hc _ _ l3).trans h.cx, (hc _ _ l4).trans h.cp, fun v hv => ⟨(hc _ _ l5).trans (h.tried v hv).1, (hf _ _).trans (h.tried v hv).2⟩⟩
theorem Env.setT (h : Env w M n X b t tr) {v : Nat} (hv : v < n) (x : Nat) : Env (w.setCell ⟨b.gT, v, none⟩ (.int .i64 x)) M n X b t (upd tr v x) := by
  obtain ⟨l1, l2, l3, l4⟩ := h.ne
  have hc : ∀ g o, g ≠ b.gT → (w.setCell ⟨b.gT, v, none⟩ (.int .i64 x)).cell? ⟨g, o, none⟩ = w.cell? ⟨g, o, none⟩ := fun g o hg => cset_other (fun e => hg (by injection e with e1; exact e1.symm))
  have hf : ∀ g o, (w.setCell ⟨b.gT, v, none⟩ (.int .i64 x)).frozen? ⟨g, o, none⟩ = w.frozen? ⟨g, o, none⟩ := fun g o => World.frozen?_setCell _ _ _ _
  refine ⟨h.lo, h.ne, (hc _ _ l1).trans h.ct, (hc _ _ l2).trans h.ctr, (hc _ _ l3).trans h.cx, (hc _ _ l4).trans h.cp, fun u hu => ⟨?_, (hf _ _).trans (h.tried u hu).2⟩⟩
  by_cases e : u = v
  · subst e
    rw [upd_same]
    exact cset_same (h.tried u hu).1
  · rw [upd_other _ _ _ (by omega : (u : Int) ≠ v)]
    exact (cset_other (fun g => e (by injection g with g1 g2; exact g2.symm))).trans (h.tried u hu).1
theorem Env.raise (h : Env w M n X b t tr) {v : Nat} (hv : v < n) {j : Nat} (hj : j = tr v) : Env (w.setCell ⟨b.gT, v, none⟩ (.int .i64 ((j : Int) + 1))) M n X b t (upd tr v (tr v + 1)) := by
  have := h.setT hv (tr v + 1)
  rw [← hj] at this ⊢
  exact this
end
theorem res_le {A : List Arc} {L : List Int} {c : Int} (hc0 : 0 ≤ c) (hc : ∀ a ∈ A, a.2.2 ≤ c) (h : Res A L) : ∀ e, L.getD e 0 ≤ c := by
  induction A generalizing L with
  | nil =>
    match L, h with
    | [], _ => intro e; simpa using hc0
  | cons a A ih =>
    match L, h with
    | x :: y :: L, ⟨h0, h1, h2, h3⟩ =>
      intro e
      have ha := hc a (by simp)
      match e with
      | 0 => show x ≤ c; omega
      | 1 => show y ≤ c; omega
      | e + 2 => exact ih (fun b hb => hc b (by simp [hb])) h3 e

def PushSaid2 (w : World) (B M n : Nat) (A : List Arc) (a : NA) (b : EA) (D : Int → Int) (t : Nat) (L' : List Int) (tr' : Int → Nat) (w' : World) : Prop :=
  Net w' B M n A a L' D ∧ Env w' M n a.X b t tr' ∧ Keeps w.heap.size (fun k => k = a.gE ∨ k = b.gT) w w'
theorem xor_one (e : Nat) : e ^^^ 1 = mate e := by
  have h1 : (e ^^^ 1) / 2 = e / 2 := by rw [Nat.xor_div_two]; simp
  have h2 : (e ^^^ 1) % 2 = 1 ↔ ¬ (e % 2 = 1) := by rw [Nat.xor_mod_two_eq_one]; simp
  unfold mate
  generalize e ^^^ 1 = x at *
  split <;> omega
theorem i64_mate (e : Nat) (he : e < 4611686018427387904) : bits .xor .i64 (e : Int) 1 = (mate e : Int) := by
  show IntKind.i64.wrap ((BitVec.ofInt 64 (e : Int) ^^^ BitVec.ofInt 64 1).toNat : Int) = _
  rw [BitVec.toNat_xor, ofInt_u64 e (by omega), show (BitVec.ofInt 64 1).toNat = 1 from rfl, xor_one]
  have : mate e ≤ e + 1 := by unfold mate; split <;> omega
  simp [IntKind.wrap, IntKind.bits, IntKind.signed]
  omega
/-- What a call of the search does. -/
def PushSaid (w : World) (B M n : Nat) (A : List Arc) (a : NA) (b : EA) (D : Int → Int) (t v : Nat) (lim : Int) (L : List Int) (tr : Int → Nat) (e : Ending) (w' : World) : Prop :=
  ∃ (got : Int) (L' : List Int) (tr' : Int → Nat), e = .returned (.int .i64 got) ∧ Push A t D v lim L tr got L' tr' ∧ Net w' B M n A a L' D ∧ Env w' M n a.X b t tr' ∧ Keeps w.heap.size (fun k => k = a.gE ∨ k = b.gT) w w'

/-- What the walk wants to know behind a search from the next node. -/
theorem push_facts {w1 : World} {B M n : Nat} {A : List Arc} {a : NA} {b : EA} {D : Int → Int} {t u v e j : Nat} {z x got : Int} {L L' : List Int} {tc tr' : Int → Nat} (hcap : ∀ a ∈ A, a.2.2 ≤ 1125899906842624)
    (hP : Push A t D u z L tc got L' tr') (hN : Net w1 B M n A a L' D) (hE : Env w1 M n a.X b t tr') (he : e < 2 * A.length) (hv : v < n) (hfr : fr A e = v) (hdu : D u = D v + 1) (hx : x = L.getD e 0) (hj : j = tc v) :
    ∃ y2 : Int, Hid (y2 = L'.getD (mate e) 0) ∧ (0 ≤ got ∧ got ≤ z ∧ 0 ≤ y2 ∧ y2 ≤ 1125899906842624) ∧
      (w1.cell? ⟨b.bx, 0, none⟩ = some (.pointer (some ⟨a.X, 0, none⟩)) ∧ w1.cell? ⟨b.btr, 0, none⟩ = some (.slice (some ⟨b.gT, 0, none⟩) n n) ∧ w1.cell? ⟨b.gT, v, none⟩ = some (.int .i64 j) ∧ w1.frozen? ⟨b.gT, v, none⟩ = false) ∧
      (w1.cell? ⟨a.X, 0, none⟩ = some (.slice (some ⟨a.gE, 0, none⟩) (2 * A.length) a.cE) ∧ w1.cell? ⟨a.gE, e * 2 + 1, none⟩ = some (.int .i64 x) ∧ w1.frozen? ⟨a.gE, e * 2 + 1, none⟩ = false) ∧
      ((w1.setCell ⟨a.gE, e * 2 + 1, none⟩ (.int .i64 (x - got))).cell? ⟨b.bx, 0, none⟩ = some (.pointer (some ⟨a.X, 0, none⟩)) ∧ (w1.setCell ⟨a.gE, e * 2 + 1, none⟩ (.int .i64 (x - got))).cell? ⟨a.X, 0, none⟩ = some (.slice (some ⟨a.gE, 0, none⟩) (2 * A.length) a.cE) ∧
        (w1.setCell ⟨a.gE, e * 2 + 1, none⟩ (.int .i64 (x - got))).cell? ⟨a.gE, mate e * 2 + 1, none⟩ = some (.int .i64 y2) ∧ (w1.setCell ⟨a.gE, e * 2 + 1, none⟩ (.int .i64 (x - got))).frozen? ⟨a.gE, mate e * 2 + 1, none⟩ = false) ∧
      Hid (PushSaid2 w1 B M n A a b D t (push1 L' e got) tr' (((w1.setCell ⟨a.gE, e * 2 + 1, none⟩ (.int .i64 (x - got))).setCell ⟨a.gE, mate e * 2 + 1, none⟩ (.int .i64 (y2 + got))))) := by
  have hk : L'.getD e 0 = x := by rw [hx]; exact hP.keep e he (by rw [hfr, hdu]; omega)
  have hjt : tr' v = j := by rw [hj]; exact hP.trkeep v (by omega)
  obtain ⟨e1, e2, e3, e4, e5⟩ := hN.edge e he
  have hx0 := hN.x0
  rw [e1] at hx0
  rw [hk] at e4
  obtain ⟨t1, t2⟩ := hE.tried v hv
  rw [hjt] at t1
  have hm := mate_lt he
  have hN2 := hN.setL he (x - got)
  have hE2 := hE.setOld (p := ⟨a.gE, e * 2 + 1, none⟩) e2 (.int .i64 (x - got))
  obtain ⟨f1, f2, f3, f4, f5⟩ := hN2.edge (mate e) hm
  have hx02 := hN2.x0
  rw [e1] at hx02
  have hset : (L'.set e (x - got)).getD (mate e) 0 = L'.getD (mate e) 0 := by simp [List.getD_eq_getElem?_getD, List.getElem?_set_ne (Ne.symm (mate_ne e))]
  rw [hset] at f4
  have hN3 := hN2.setL hm (L'.getD (mate e) 0 + got)
  have hE3 := hE2.setOld (p := ⟨a.gE, mate e * 2 + 1, none⟩) f2 (.int .i64 (L'.getD (mate e) 0 + got))
  refine ⟨L'.getD (mate e) 0, rfl, ⟨hP.lo, hP.hi, hP.res.nonneg _, res_le (by omega) hcap hP.res _⟩, ⟨hE.cx, hE.ctr, t1, t2⟩, ⟨hx0, e4, e5⟩, ⟨hE2.cx, hx02, f4, f5⟩, ?_, hE3, ?_⟩
  · have : push1 L' e got = (L'.set e (x - got)).set (mate e) (L'.getD (mate e) 0 + got) := by unfold push1; rw [hk]
    rw [this]
    exact hN3
  · exact ((Keeps.refl _ _ _).setCell (.inr (.inl rfl)) _).setCell (.inr (.inl rfl)) _

set_option maxHeartbeats 2000000 in
set_option maxRecDepth 10000 in
theorem push_any {B M n : Nat} {A : List Arc} {a : NA} {b : EA} {D : Int → Int} {t : Nat} (hA : inN n A) (hm : A.length ≤ 4096) (hcap : ∀ a ∈ A, a.2.2 ≤ 1125899906842624) (hD : ∀ v : Nat, v < n → -1 ≤ D v ∧ D v < n) (hn : n ≤ 256) (k : Nat) :
    ∀ (v : Nat) (lim : Int) (L : List Int) (tr : Int → Nat) (w : World), (n : Int) ≤ D v + k → v < n → 0 < lim → lim ≤ 9223372036854775807 → Net w B M n A a L D → Env w M n a.X b t tr → M ≤ w.heap.size → Res A L → (∀ u, tr u ≤ (outs A u).length) →
    Calls Try.prog 55 (#[.int .i64 v, .int .i64 lim] ++ b.caps) w (PushSaid w B M n A a b D t v lim L tr) := by
  induction k with
  | zero => intro v lim L tr w h1 hv; have := (hD v hv).2; omega
  | succ k ih =>
    intro v lim L tr w hk hv hl0 hl1 hN hE hM hR htr
    simp only [EA.caps, List.append_toArray]
    show Calls Try.prog 55 #[_, _, _, _, _, _] w _
    by_cases hvt : v = t
    · subst hvt
      have ct := hE.ct
      have hf : PushSaid w B M n A a b D v v lim L tr (.returned (.int .i64 lim)) w := ⟨lim, L, tr, rfl, Push.base hR hl0 htr, hN, hE, Keeps.refl _ _ _⟩
      go_enter Try.func55, Try.ntmps55
      go_wp2_with fail
      go_ret
      exact hf
    · have ct := hE.ct
      have hvt' : ((v : Int) == t) = false := by simp; omega
      go_enter Try.func55, Try.ntmps55
      go_wp2_with fail
      go_loopg [] ((outs A v).length - tr v) (fun g wr => ∃ tc : Int → Nat, g + tc v = (outs A v).length ∧ Net wr B M n A a L D ∧ Env wr M n a.X b t tc ∧ Seek A t D v L tr tc ∧ Keeps w.heap.size (fun k => k = a.gE ∨ k = b.gT) w wr)
      case atStart => exact ⟨tr, by have := htr v; omega, hN, hE, Seek.begin htr, Keeps.refl _ _ _⟩
      case round =>
        obtain ⟨tc, hg, hNr, hEr, hS, hKr⟩ := hrel
        have hx1 := hNr.x1
        have hx0 := hNr.x0
        have hx2 := hNr.x2
        obtain ⟨ao, rc, hre, hrc⟩ := hNr.row v hv
        have hro := hNr.out v hv
        rw [hre] at hro
        have ctr := hEr.ctr
        have cx := hEr.cx
        obtain ⟨ctv, ctf⟩ := hEr.tried v hv
        obtain ⟨j, hj⟩ : ∃ j, j = tc v := ⟨_, rfl⟩
        rw [← hj] at ctv
        by_cases hlt : j < (outs A v).length
        · obtain ⟨e, he⟩ : ∃ e, (outs A v)[j]? = some e := ⟨_, List.getElem?_eq_getElem hlt⟩
          have hel := (mem_outs.1 (List.mem_of_getElem? he)).1
          obtain ⟨i1, i2, i3, i4⟩ := inN_ends hA e hel
          obtain ⟨u, hu⟩ := Int.eq_ofNat_of_zero_le i3
          have hun : u < n := by omega
          obtain ⟨g, o, hao, hg1, hg2, hg3, hg4, hrcell⟩ := hrc j e he
          subst hao
          obtain ⟨p1, p2, ce0, ce1, cef⟩ := hNr.edge e hel
          rw [p1] at hx0
          obtain ⟨cd, cdf⟩ := hNr.dist u hun
          obtain ⟨cv, _⟩ := hNr.dist v hv
          rw [hu] at ce0
          have hdr := hD v hv
          have hdr2 := hD u hun
          have hol : (outs A v).length ≤ 8192 := by have := outs_len A v; omega
          have hx0' := hR.nonneg e
          have hx1' := res_le (by omega) hcap hR e
          obtain ⟨x, hx⟩ : ∃ x, x = L.getD e 0 := ⟨_, rfl⟩
          rw [← hx] at ce1 hx0' hx1'
          obtain ⟨d, hd⟩ : ∃ d, d = D u := ⟨_, rfl⟩
          rw [← hd] at cd hdr2
          obtain ⟨dv, hdv⟩ : ∃ dv, dv = D v := ⟨_, rfl⟩
          rw [← hdv] at cv hdr
          have F := Lib.hid (And.intro hx (And.intro hd (And.intro hdv (And.intro hu (And.intro he (And.intro hg (And.intro hj hre)))))))
          clear hx hd hdv hu he hrc hg hj hre
          have skip : Hid ((x = 0 ∨ d ≠ dv + 1) → Seek A t D v L tr (upd tc v (tc v + 1)) ∧ ∃ g', g' < gk ∧ g' + upd tc v (tc v + 1) v = (outs A v).length) := by
            intro hor
            obtain ⟨hx, hd, hdv, hu, he, hg, hj, hre⟩ := F.out
            refine ⟨hS.skip (by omega) (by rw [← hj]; exact he) (by rw [hu, ← hd, ← hdv, ← hx]; exact hor), gk - 1, by omega, by rw [upd_same]; omega⟩
          have cp := hEr.cp
          go_wp2_with fail
          go_quiet (fail)
          go_wp2_with fail
          go_quiet (fail)
          go_wp2_with fail
          go_quiet (fail)
          by_cases g1 : x = 0
          · subst g1
            go_wp2_with fail
            go_quiet (fail)
            go_wp2_with fail
            obtain ⟨s1, g', s2, s3⟩ := (Hid.out skip) (.inl (by trivial))
            obtain ⟨hx, hd, hdv, hu, he, hg, hj, hre⟩ := F.out
            go_roundg g'
            case measure => exact s2
            case rel => exact ⟨_, s3, (hNr.drewN _).setFar hEr.lo.2.2.2.2 _, (hEr.drewN _).raise hv hj, s1, (hKr.drewN _).setCell (.inr (.inr rfl)) _⟩
          have g1' : (x == 0) = false := by simp; exact g1
          by_cases g2 : d = dv + 1
          case neg =>
            have g2' : (d != dv + 1) = true := by simp; exact g2
            go_wp2_with fail
            go_quiet (fail)
            go_wp2_with fail
            obtain ⟨s1, g', s2, s3⟩ := skip.out (.inr g2)
            obtain ⟨hx, hd, hdv, hu, he, hg, hj, hre⟩ := F.out
            go_roundg g'
            case measure => exact s2
            case rel => exact ⟨_, s3, (hNr.drewN _).setFar hEr.lo.2.2.2.2 _, (hEr.drewN _).raise hv hj, s1, (hKr.drewN _).setCell (.inr (.inr rfl)) _⟩
          · have g2' : (d != dv + 1) = false := by simp; exact g2
            obtain ⟨z, hz⟩ : ∃ z, (if x < lim then x else lim) = z := ⟨_, rfl⟩
            have hzb : 0 < z ∧ z ≤ lim ∧ z ≤ x ∧ z = min lim x := by rw [← hz]; omega
            have Z := Lib.hid hzb.2.2.2
            have hz1 := hzb.1
            have hz2 := hzb.2.1
            have hz3 := hzb.2.2.1
            have hz4 : min lim x = z := hzb.2.2.2.symm
            clear hzb
            have hwr : w.heap.size ≤ wr.heap.size := hKr.size
            have hcall : Hid (∀ m, Calls Try.prog 55 (#[.int .i64 u, .int .i64 z] ++ b.caps) (wr.drewN m) (PushSaid (wr.drewN m) B M n A a b D t u z L tc)) := fun m => by
              obtain ⟨hx, hd, hdv, hu, he, hg, hj, hre⟩ := F.out
              exact ih u z L tc (wr.drewN m) (by omega) hun hz1 (by omega) (hNr.drewN m) (hEr.drewN m) (by show M ≤ wr.heap.size; omega) hR hS.trhi
            have hfacts := Lib.hid <| fun (w1 : World) (got : Int) (L' : List Int) (tr' : Int → Nat) (hP : Push A t D u z L tc got L' tr') (hN1 : Net w1 B M n A a L' D) (hE1 : Env w1 M n a.X b t tr') => by
              obtain ⟨hx, hd, hdv, hu, he, hg, hj, hre⟩ := F.out
              exact push_facts hcap hP hN1 hE1 hel hv (mem_outs.1 (List.mem_of_getElem? he)).2 (by omega) hx hj
            have hxor := i64_mate e (by omega)
            have hmm := mate_lt hel
            go_wp2_with fail
            go_quiet (fail)
            go_wp2_with (go_at_call 55; refine (hcall.out _).mono ?_; rintro e1 w1 ⟨got, L', tr', rfl, hP, hN1, hE1, hK1⟩; obtain ⟨y2, hy2, ⟨q1, q2, q3, q4⟩, ⟨q5, q6, q7, q8⟩, ⟨q9, q10, q11⟩, ⟨q12, q13, q14, q15⟩, q16⟩ := hfacts.out _ _ _ _ hP hN1 hE1)
            · have hgot : 0 < got := by assumption
              go_ret
              obtain ⟨hx, hd, hdv, hu, he, hg, hj, hre⟩ := F.out
              obtain ⟨r1, r2, r3⟩ := q16.out
              have hs1 : w.heap.size ≤ w1.heap.size := Nat.le_trans hwr hK1.size
              exact ⟨got, push1 L' e got, tr', rfl, (hS.hit (by rw [← hj]; exact he) (by rw [hu]; omega) hgot (by rw [hu, ← hx, hz4]; exact hP)).2, r1, r2, ((hKr.drewN _).trans (hK1.mono hwr (fun _ _ h => h))).trans (r3.mono hs1 (fun _ _ h => h))⟩
            · have hgot : got ≤ 0 := by assumption
              obtain rfl : got = 0 := by omega
              obtain ⟨hx, hd, hdv, hu, he, hg, hj, hre⟩ := F.out
              obtain ⟨d1, d2, d3⟩ := hS.deep (by omega) (by rw [← hj]; exact he) (by rw [hu]; omega) (by rw [hu]; exact hP)
              subst d1
              go_roundg (gk - 1)
              case measure => omega
              case rel => exact ⟨_, by rw [upd_same]; omega, hN1.setFar hEr.lo.2.2.2.2 _, hE1.raise hv (by omega), d3, ((hKr.drewN _).trans (hK1.mono hwr (fun _ _ h => h))).setCell (.inr (.inr rfl)) _⟩
        · have hF := Lib.hid (And.intro hg (And.intro hj hre))
          clear hg hj hre hrc
          go_wp2_with fail
          go_quiet (fail)
          go_wp2_with fail
          go_ret
          obtain ⟨hg, hj, hre⟩ := hF.out
          refine ⟨0, L, tc, rfl, hS.done hR hl0 (by omega) (by have := hS.trhi v; omega), hNr.drewN _, hEr.drewN _, hKr.drewN _⟩
end Go.Proofs.Ytphebdmdbnpokaa.FL

