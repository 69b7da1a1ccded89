/- The walk of network.measure: a search by levels. -/
import Derived.Test.YtphebdmdbnpokaaFNet
import Derived.Deep.LoopGhost
import Derived.BigRegion
set_option linter.unusedSimpArgs false
set_option linter.unusedVariables false
namespace Go.Proofs.Ytphebdmdbnpokaa.FL
open Go.RowKit FM

theorem info3 : (Try.prog.info? 3).map (fun i => (i.zero, i.size, i.bytes)) = some (some (.int .i64 0), 1, 8) := by kernel_rfl
theorem outs_len (A : List Arc) (v : Int) : (outs A v).length ≤ 2 * A.length := Nat.le_trans (List.length_filter_le _ _) (by simp)
theorem row_step {w : World} {base g u : Nat} {v x : Value} {l : List Value} (h : RowAt w base 3 v l) (hg : g < base) (o : Obj) : RowAt (((w.setCell ⟨g, u, none⟩ x).alloc o).drew) base 3 v l :=
  h.keep fun k h1 h2 => (Below.heap_alloc (w.setCell ⟨g, u, none⟩ x) o k (by simpa using h2)).trans (Below.heap_setCell w ⟨g, u, none⟩ x k (by show k ≠ g; omega))
theorem visit_net {w w0 wr w' : World} {B M n u : Nat} {A : List Arc} {a : NA} {L : List Int} {D : Int → Int} {y : Value} (hN : Net wr B M n A a L D) (hu : u < n) (x : Int) (hM : M ≤ w.heap.size) (hs : w.heap.size ≤ wr.heap.size)
    (k : Grew w.heap.size w0 w')
    (e : w0 = ((wr.setCell ⟨a.gD, u, none⟩ (.int .i64 x)).alloc (.cells #[y] 3)).drew := by rfl) : Net w' B M n A a L (updI D u x) := by
  subst e
  exact (hN.setD hu x).keep fun b hb => (k.block b (by simp; omega) (by omega)).trans (Below.heap_alloc _ _ b (by simp; omega))
theorem visit_keeps {w w0 wr w' : World} {g : Nat} (hK : Keeps w.heap.size (· = g) w wr) (u : Nat) (x : Int) {y : Value}
    (k : Grew w.heap.size w0 w')
    (e : w0 = ((wr.setCell ⟨g, u, none⟩ (.int .i64 x)).alloc (.cells #[y] 3)).drew := by rfl) : Keeps w.heap.size (· = g) w w' := by
  subst e
  have hs := hK.size
  exact (((hK.setCell (p := ⟨g, u, none⟩) (.inr rfl) (.int .i64 x)).alloc (by simpa using hs) (.cells #[y] 3)).drew).step (by simp; omega) k
def minusTo (D : Int → Int) (k : Nat) : Int → Int := fun u => if u < k then -1 else D u

set_option maxHeartbeats 1000000 in
set_option maxRecDepth 10000 in
theorem measure_any {w : World} {B M n : Nat} {A : List Arc} {a : NA} {L : List Int} {D : Int → Int} (s : Nat) (hN : Net w B M n A a L D) (hM : M ≤ w.heap.size) (hs : s < n) (hn : n ≤ 256) (hA : inN n A) (hm : A.length ≤ 4096) :
    Calls Try.prog 47 #[.pointer (some ⟨a.X, 0, none⟩), .int .i64 s] w fun e w' => e = .returned (.tuple #[]) ∧ ∃ D', Net w' B M n A a L D' ∧ BfsO n A L s D' [] ∧ Keeps w.heap.size (· = a.gD) w w' := by
  obtain ⟨i0, hi, hz0, hz1, hz2⟩ := info_parts info3
  have hx2 := hN.x2
  have hgD := hN.hi.2.2
  go_enter Try.func47, Try.ntmps47
  go_wp2
  go_loopw [15] (fun i wr => ∃ k : Nat, k ≤ n ∧ i = .int .i64 k ∧ Net wr B M n A a L (minusTo D k) ∧ Keeps w.heap.size (· = a.gD) w wr) (fun i _ => n - (intOf i).toNat)
  case atStart => exact ⟨0, Nat.zero_le _, rfl, hN.congrD (fun v _ => by simp [minusTo]; omega), Keeps.refl _ _ _⟩
  case round =>
    obtain ⟨k, hk, rfl, hNr, hKr⟩ := hrel
    have hx2r := hNr.x2
    by_cases hlt : k < n
    · obtain ⟨hd, hf⟩ := hNr.dist k hlt
      have hnext := hNr.setD hlt (-1)
      go_wp2
      go_roundw
      case rel => exact ⟨k + 1, by omega, by go_num, hnext.congrD (fun v _ => by simp only [updI, minusTo]; split <;> split <;> omega), hKr.setCell (.inr rfl) _⟩
      case measure => simp [intOf]; omega
    · obtain rfl : n = k := by omega
      have hD := hNr.congrD (D' := fun _ => -1) (fun v hv => by simp [minusTo, hv])
      obtain ⟨hd, hf⟩ := hD.dist s hs
      have hO := BfsO.begin (A := A) (L := L) (s := (s : Int)) (n := n) (by omega) (by omega)
      have hN0 := hD.setD hs 0
      have hK0 := hKr.setCell (p := ⟨a.gD, s, none⟩) (.inr rfl) (.int .i64 0)
      clear hD hNr hKr
      go_wp2
      go_loopg [5] n (fun g v wq => ∃ Q D', (g : Int) = n - cnt n D' + Q.length ∧ g ≤ n ∧ RowAt wq w.heap.size 3 v (Q.map (Value.int .i64)) ∧ BfsO n A L s D' Q ∧ Net wq B M n A a L D' ∧ Keeps w.heap.size (· = a.gD) w wq)
      case atStart =>
        have hc := cnt_upd n (fun _ => -1) s 0 (by omega) (by omega) (by omega) (by omega)
        rw [cnt_none] at hc
        have hsz := hK0.size
        exact ⟨[(s : Int)], _, by rw [hc]; simp, Nat.le_refl _, rowAt_one 3 _ (by simp) (by simpa using hsz), hO, hN0.alloc (by omega) _, hK0.alloc (by omega) _⟩
      case round =>
        obtain ⟨Q, D', hg, hgn, hrow, hO, hNq, hKq⟩ := hrel
        cases Q with
        | nil =>
          obtain ⟨ao, c, rfl⟩ := hrow.nil
          go_wp2
          go_end0
          exact ⟨rfl, D', hNq, hO, hKq⟩
        | cons v Q =>
          obtain ⟨v, rfl⟩ := Int.eq_ofNat_of_zero_le (hO.lev.rng v (hO.q v (by simp))).1
          have hv := (hO.lev.rng v (hO.q v (by simp))).2
          have hv : v < n := by omega
          obtain ⟨qg, qo, qc, q1, rfl, hq1, hq4, hq5, hsl⟩ := hrow.tail (P := Try.prog) 29 Try.underlying29 (fun wx => by go_simp)
          have hI : Hid (BfsI n A L s D' v Q 0) := hO.pop
          have hgQ : Hid ((gk : Int) = n - cnt n D' + (Q.length + 1)) := by have hg2 := hg; simp at hg2; exact hg2
          have hlen : (Q.map (Value.int .i64)).length = Q.length := by simp
          rw [hlen] at hsl ⊢
          clear hO hg hrow hlen
          have hx1 := hNq.x1
          have hro := hNq.out v hv
          obtain ⟨ao, rc, hre0, _⟩ := hNq.row v hv
          have hre := Lib.hid hre0
          rw [hre0] at hro
          clear hre0
          go_wp2
          go_loopw [5, 49] (fun v5 i wi => ∃ (k : Nat) (Q' : List Int) (D'' : Int → Int), k ≤ (outs A v).length ∧ i = .int .i64 k ∧ BfsI n A L s D'' v Q' k ∧ (gk : Int) = n - cnt n D'' + (Q'.length + 1) ∧ RowAt wi w.heap.size 3 v5 (Q'.map (Value.int .i64)) ∧ Net wi B M n A a L D'' ∧ Keeps w.heap.size (· = a.gD) w wi) (fun _ i _ => (outs A v).length - (intOf i).toNat)
          case atStart => exact ⟨0, Q, D', Nat.zero_le _, rfl, hI.out, hgQ.out, hq5, hNq, hKq⟩
          case round =>
            clear hI hgQ hq5 hNq hKq hx1 hro hq1 hq4 hsl
            obtain ⟨k, Q', D'', hk, rfl, hI, hgQ, hrow, hNi, hKi⟩ := hrel
            by_cases hlt : k < (outs A v).length
            · obtain ⟨e, he⟩ : ∃ e, (outs A v)[k]? = some e := ⟨_, List.getElem?_eq_getElem hlt⟩
              have hel := (mem_outs.1 (List.mem_of_getElem? he)).1
              have hol : (outs A v).length ≤ 8192 := by have := outs_len A v; omega
              obtain ⟨i1, i2, i3, i4⟩ := inN_ends hA e hel
              obtain ⟨u, hu⟩ := Int.eq_ofNat_of_zero_le i3
              have hun : u < n := by omega
              obtain ⟨ao2, rc2, hre2, hrc2⟩ := hNi.row v hv
              rw [hre.out] at hre2
              obtain ⟨g, o, hao, hg1, hg2, hg3, hg4, hrcell⟩ := hrc2 k e he
              injection hre2 with hr1 hr2 hr3
              subst hr1
              subst hao
              obtain ⟨p1, p2, ce0, ce1, cef⟩ := hNi.edge e hel
              have hx0 := hNi.x0
              have hx2 := hNi.x2
              rw [p1] at hx0
              obtain ⟨cd, cdf⟩ := hNi.dist u hun
              obtain ⟨cv, _⟩ := hNi.dist v hv
              rw [hu] at ce0
              have hdr : D'' v + 1 ≤ 9223372036854775807 ∧ -1 ≤ D'' v := by have := hI.lev.hi v; have := hI.lev.lo v; have := cnt_le n D''; omega
              obtain ⟨x, hx⟩ : ∃ x, x = L.getD e 0 := ⟨_, rfl⟩
              rw [← hx] at ce1
              obtain ⟨d, hd⟩ : ∃ d, d = D'' u := ⟨_, rfl⟩
              rw [← hd] at cd
              obtain ⟨dv, hdv⟩ : ∃ dv, dv = D'' v := ⟨_, rfl⟩
              rw [← hdv] at cv hdr
              have F := Lib.hid (And.intro hx (And.intro hd (And.intro hdv (And.intro hu (And.intro he hI)))))
              clear hx hd hdv hu he hI hrc2 hr2 hr3
              by_cases g1 : 0 < x
              case neg =>
                go_wp2
                obtain ⟨hx, hd, hdv, hu, he, hI⟩ := F.out
                go_roundw
                case rel => exact ⟨k + 1, Q', D'', by omega, by go_num, hI.pass he (.inl (by omega)), hgQ, hrow, hNi, hKi⟩
                case measure => simp [intOf]; omega
              by_cases g2 : d < 0
              case neg =>
                go_wp2
                obtain ⟨hx, hd, hdv, hu, he, hI⟩ := F.out
                go_roundw
                case rel => exact ⟨k + 1, Q', D'', by omega, by go_num, hI.pass he (.inr (by rw [hu]; omega)), hgQ, hrow, hNi, hKi⟩
                case measure => simp [intOf]; omega
              go_wp2
              go_region
              have hc := (cnt_le n D'').2
              go_wp2_with (at_builtin; refine wpList_append_row rfl (.tmp 94) (.tmp 96) 29 rfl w.heap.size 3 i0 (.int .i64 0) 8 Try.underlying29 hi hz0 hz1 hz2 rfl _ (Q'.map (Value.int .i64)) rfl ?c1 ⟨wr.heap.size, 0, none⟩ 1 1 [.int .i64 u] rfl rfl ?c2 ?c3 (by decide) ?c4 ?c5 ?c6 ?_)
              case c1 => exact row_step hrow (by omega) _
              case c2 => exact one_new _ _ (by simp)
              case c3 => intro u hu; simp at hu; subst hu; rfl
              case c4 => simp; unfold maxLen; omega
              case c5 => simp; omega
              case c6 => have := hKi.size; simp; omega
              intro v' w' hrow' hstep
              have hN3 := visit_net hNi hun (dv + 1) hM hKi.size hstep
              have hK3 := visit_keeps hKi u (dv + 1) hstep
              clear hstep hrow hNi hKi
              go_wp2
              obtain ⟨hx, hd, hdv, hu, he, hI⟩ := F.out
              have hI2 := hI.visit hA he (by omega) (by rw [hu]; omega)
              have hcn := cnt_upd n D'' u (D'' v + 1) (by omega) (by omega) (by omega) (by omega)
              rw [hu] at hI2
              rw [hdv] at hN3
              go_roundw
              case rel => exact ⟨k + 1, Q' ++ [(u : Int)], updI D'' u (D'' v + 1), by omega, by go_num, hI2, by simp; omega, by simpa using hrow', hN3, hK3⟩
              case measure => simp [intOf]; omega
            · go_wp2
              have hc := (cnt_le n D'').2
              go_roundg (gk - 1)
              case measure => omega
              case rel => exact ⟨Q', D'', by omega, by omega, hrow, hI.finish (by omega), hNi, hKi⟩
end Go.Proofs.Ytphebdmdbnpokaa.FL
