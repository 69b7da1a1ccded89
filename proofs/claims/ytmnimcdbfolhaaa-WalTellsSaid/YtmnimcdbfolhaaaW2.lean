/- The walk of Crash. -/
import Derived.Test.YtmnimcdbfolhaaaW1
import Derived.Test.YtmnimcdbfolhaaaClearRow
import Derived.Deep.Cut
set_option linter.unusedSimpArgs false
set_option linter.unusedVariables false
namespace Go.Proofs.Ytmnimcdbfolhaaa
open Go.RowKit DK
attribute [local go_sem] alloc_drewN setCell_drewN shape_drewN
/-- What may be turned where only a disk's own block and its files' rows are written. -/
structure Wri (b : Nat) (m : Dm) (w w' : World) : Prop where
  os : w'.os = w.os
  tape : w'.tape = w.tape
  output : w'.output = w.output
  size : w.heap.size ≤ w'.heap.size
  block : ∀ k, k < w.heap.size → k ≠ b → (∀ f, f < 8 → m.dA f ≠ some k) → w'.heap[k]? = w.heap[k]?
section
variable {b : Nat} {m : Dm} {w w1 w2 : World}
theorem Wri.refl (b : Nat) (m : Dm) (w : World) : Wri b m w w := ⟨rfl, rfl, rfl, Nat.le_refl _, fun _ _ _ _ => rfl⟩
theorem Wri.trans {m2 : Dm} (h : Wri b m w w1) (k : Wri b m2 w1 w2) (e : ∀ f, f < 8 → m2.dA f = m.dA f) : Wri b m w w2 :=
  ⟨k.os.trans h.os, k.tape.trans h.tape, k.output.trans h.output, Nat.le_trans h.size k.size, fun i hi h1 h2 => (k.block i (Nat.lt_of_lt_of_le hi h.size) h1 (fun f hf => by rw [e f hf]; exact h2 f hf)).trans (h.block i hi h1 h2)⟩
theorem Wri.of_below (h : Below w.heap.size w w1) : Wri b m w w1 := ⟨h.os, h.tape, h.output, h.size, fun k hk _ _ => h.block k hk⟩
theorem Wri.store (b : Nat) (m : Dm) (w : World) (i : Nat) (v : Value) : Wri b m w (w.setCell ⟨b, i, none⟩ v) := ⟨rfl, rfl, rfl, by simp, fun k _ hn _ => Below.heap_setCell _ _ _ _ hn⟩
theorem Wri.row {f : Nat} (hf : f < 8) (h : w.grownBy w1 (m.dA f)) : Wri b m w w1 := ⟨h.os, h.tape, h.output, h.size, fun k hk _ hn => h.block k hk (fun e => hn f hf e.symm)⟩
theorem Wri.stp (h : Wri b m w w1) : Stp b m w m w1 := ⟨h.os, h.tape, h.output, h.size, fun k hk hn => h.block k hk (fun e => hn (.inl e)) (fun f hf e => hn (.inr (.inl ⟨f, hf, e⟩))), fun _ q => .inl q⟩
theorem Wri.ints {B : Nat} {A : Option Addr} {l : List Int} (h : Wri b m w w1) (hA : IntsAt w w.heap.size A l) (ha : ∀ a, A = some a → a.block ≠ b ∧ ∀ f, f < 8 → m.dA f ≠ some a.block) (hB : w.heap.size ≤ B) : IntsAt w1 B A l :=
  ints_heap hA hB fun a e hlt => h.block _ hlt (ha a e).1 (ha a e).2
end
theorem ad_addr {o : Option Nat} {w : World} {base e k n c : Nat} {xs : List Value} (h : w.ownsRow base e k (.slice (ad o) n c) n xs) (hn : 0 < n) : ∃ g, o = some g := by
  cases o with
  | none =>
    rcases h.2 with ⟨_, e2⟩ | ⟨g, cap, cur, e1, _⟩
    · omega
    · simp [ad] at e1
  | some g => exact ⟨g, rfl⟩
theorem owns_room {w : World} {base e k n c : Nat} {A : Option Addr} {xs : List Value} (h : w.ownsRow base e k (.slice A n c) n xs) : n ≤ c := owns_cap h rfl
theorem owns_max {w : World} {base e k n c : Nat} {A : Option Addr} {xs : List Value} (h : w.ownsRow base e k (.slice A n c) n xs) : c ≤ maxLen := by
  rcases h.2 with ⟨e1, _⟩ | ⟨g, cap, cur, e1, _, _, _, hm, _⟩
  · injection e1 with _ _ e; rw [e]; exact Nat.zero_le _
  · injection e1 with _ _ e; rw [e]; exact hm
section
variable {w : World} {b : Nat} {m : Dm} {s : St}
theorem DiskAt.pend (h : DiskAt w b m s) {k : Nat} {p : Pd} (hk : s.q[k]? = some p) : ∃ g, m.lA = some g ∧ b < g ∧ g < w.heap.size ∧
    w.cell? ⟨g, k * 3, none⟩ = some (.int .i64 p.file) ∧ w.cell? ⟨g, k * 3 + 1, none⟩ = some (.int .i64 p.fr) ∧ w.cell? ⟨g, k * 3 + 2, none⟩ = some (.int .i64 p.un) := by
  have hlt := (List.getElem?_eq_some_iff.1 hk).1
  obtain ⟨g, hg⟩ := ad_addr h.rl (by omega)
  have hl := h.llt hg
  have row := h.rl
  rw [hg] at row
  have c := fun j (hj : j < 3) => (row.cellAt (k * 3 + j) (by omega)).trans (rowk_get pdC_len s.q k p hk j hj)
  exact ⟨g, hg, hl.1, hl.2, c 0 (by omega), c 1 (by omega), c 2 (by omega)⟩
end
theorem Try.zeroByte (w : World) : (zeroValue 5).run Try.prog w = .ok (.int .u8 0) w := by kernel_rfl
theorem zeros_u8 (n : Nat) : (Builtin.zeroCells #[.int .u8 0] n).toList = bytesV (List.replicate n 0) := by
  unfold bytesV
  rw [List.map_replicate]
  simp [Builtin.zeroCells]
  apply List.ext_getElem
  · simp
  · intro i h1 h2
    simp [Nat.mod_one]
theorem zer_bytes (l : Bts) {a u : Nat} (h : a ≤ u) : (bytesV l).take (a * 1) ++ (Builtin.zeroCells #[.int .u8 0] (u - a)).toList ++ (bytesV l).drop ((a + (u - a)) * 1) = bytesV (zer l a u) := by
  rw [zeros_u8, Nat.mul_one, Nat.mul_one, show a + (u - a) = u by omega]
  unfold zer
  rw [bytesV_app, bytesV_app, bytesV_take]
  unfold bytesV
  rw [List.map_drop]
set_option maxRecDepth 100000 in
set_option maxHeartbeats 4000000 in
theorem crash_any (b : Nat) (m : Dm) (s : St) (A : Option Addr) (c : Nat) (keep : List Int) (w : World) (h : DiskAt w b m s) (hok : Ok s) (hq : s.q.length ≤ 1000000) (hA : IntsAt w w.heap.size A keep) (ha : keep ≠ [] → ∀ a, A = some a → a.block ≠ b ∧ ∀ f, f < 8 → m.dA f ≠ some a.block) (hkl : keep.length ≤ 9223372036854775807) :
    Calls Try.prog 23 #[dp b, .slice A keep.length c] w fun e w' => e = .returned (.tuple #[]) ∧ ∃ m', DiskAt w' b m' (crash s keep) ∧ Stp b m w m' w' := by
  unfold dp
  have h1 := h.cn
  cases hd : s.down
  case true =>
    rw [hd] at h1
    have H := Lib.hid h
    clear h
    go_enter Try.func23, Try.ntmps23
    go_wp2_with fail
    refine bodyPost_ret (results_none rfl _ _ _) rfl ?_
    exact ⟨rfl, m, by unfold DK.crash; rw [hd]; exact H.out, Stp.refl _ _ _⟩
  case false =>
    rw [hd] at h1
    have h2 := h.cl
    have H := Lib.hid h
    have HA := Lib.hid hA
    replace ha := Lib.hid ha
    have hS : Hid (crash s keep = { data := fun f => (crD keep s.q s.data s.q.length f).take (crU keep s.q s.dur s.q.length f), dur := crU keep s.q s.dur s.q.length, q := [], down := true, lost := s.lost, armed := 0, keep := [] }) := by
      show _ = _; unfold DK.crash; rw [hd]; rfl
    obtain ⟨nq, hnq⟩ : ∃ n, n = s.q.length := ⟨_, rfl⟩
    rw [← hnq] at h2 hq
    replace hnq := Lib.hid hnq
    clear h hA
    go_enter Try.func23, Try.ntmps23
    go_wp2_with fail
    go_loopw [18] (fun i wr => ∃ k : Nat, k ≤ nq ∧ i = .int .i64 k ∧ DiskAt wr b m { s with data := crD keep s.q s.data k, dur := crU keep s.q s.dur k } ∧ Wri b m w wr) (fun i _ => nq - (intOf i).toNat)
    case atStart => exact ⟨0, Nat.zero_le _, rfl, H.out, Wri.refl _ _ _⟩
    case round =>
      obtain ⟨k, hk, rfl, hD, hW⟩ := hrel
      by_cases hlt : k < nq
      · obtain ⟨p, hp⟩ : ∃ p, s.q[k]? = some p := ⟨_, List.getElem?_eq_getElem (by have := hnq.out; omega)⟩
        obtain ⟨g, hg, hg1, hg2, p0, p1, p2⟩ := hD.pend hp
        have hpo := hok.q p (List.mem_of_getElem? hp)
        have hlen := crD_len hok keep k p.file hpo.1
        have hD0 := Lib.hid hD
        rw [hg, show ad (some g) = some ⟨g, 0, none⟩ from rfl]
        obtain ⟨f, hf⟩ : ∃ f, Hid (f = p.file) := ⟨_, rfl⟩
        obtain ⟨fr, hfr⟩ : ∃ f, Hid (f = p.fr) := ⟨_, rfl⟩
        obtain ⟨un, hun⟩ : ∃ f, Hid (f = p.un) := ⟨_, rfl⟩
        obtain ⟨n, hn⟩ : ∃ n, Hid (n = kept keep k p) := ⟨_, rfl⟩
        have hHd : Hid (crD keep s.q s.data (k + 1) = upd (crD keep s.q s.data k) f (zer (crD keep s.q s.data k f) (fr + n) un)) := by show _ = _; rw [crD_at hp, hf.out, hfr.out, hun.out, hn.out]
        have hHu : Hid (crU keep s.q s.dur (k + 1) = if 0 < n then upd (crU keep s.q s.dur k) f (fr + n) else crU keep s.q s.dur k) := by show _ = _; rw [crU_at hp, hf.out, hfr.out, hn.out]
        rw [← hf.out] at p0 hpo
        rw [← hfr.out] at p1 hpo
        rw [← hun.out] at p2 hpo
        have hkq : (0 : Int) ≤ (k : Int) ∧ (k : Int) < (nq : Int) := by omega
        have hH := Lib.hid hpo
        have hun3 : un ≤ 16777216 := by have := hok.len f hpo.1; have := hpo.2.2; omega
        have hfr3 : fr ≤ un := hpo.2.1
        have hz1 : g < wr.heap.size := hg2
        have hbz : b < wr.heap.size := by omega
        clear hD hpo hp hlen
        go_upto_region 4 with fail
        obtain ⟨wq, hwq⟩ : ∃ x, x = wr.alloc (.cells #[.int .i64 f, .int .i64 fr, .int .i64 un] 94) := ⟨_, rfl⟩
        rw [← hwq]
        have hBq : Below wr.heap.size wr wq := by rw [hwq]; exact below_new _ _
        have c0 : wq.cell? ⟨wr.heap.size, 0, none⟩ = some (.int .i64 f) := by rw [hwq]; simp
        have c1 : wq.cell? ⟨wr.heap.size, 1, none⟩ = some (.int .i64 fr) := by rw [hwq]; simp
        have c2 : wq.cell? ⟨wr.heap.size, 2, none⟩ = some (.int .i64 un) := by rw [hwq]; simp
        have hzq : wr.heap.size < wq.heap.size := by rw [hwq]; simp
        clear hwq p0 p1 p2
        by_cases hkk : k < keep.length
        · obtain ⟨kv, hkv⟩ : ∃ x, keep[k]? = some x := ⟨_, List.getElem?_eq_getElem hkk⟩
          have hn2 : Hid ((n : Int) = max 0 (min kv ((un : Int) - fr))) := by
            show _ = _; rw [hn.out]; unfold kept; rw [hkv, hun.out, hfr.out]; simp only []; omega
          have hAq : IntsAt wq wq.heap.size A keep := ((hW.ints HA.out (ha.out (fun e => by rw [e] at hkk; simp at hkk)) hW.size).below hBq).more (by omega)
          obtain ⟨ab, ao, rfl, hab, a0⟩ := hAq.at_ hkv
          have e1 : IntKind.i64.wrap ((un : Int) - fr) = (un : Int) - fr := by simp [IntKind.wrap, IntKind.signed, IntKind.bits]; omega
          have hki : (0 : Int) ≤ (k : Int) ∧ (k : Int) < (keep.length : Int) := by omega
          clear hkv
          go_upto_region 6 with fail
          refine Plan.wp_region_tree (.rd 0 (.rd 1 (.rd 2 (.rd 3 (.rd 4 (.rd 5 (.rd 6 (.rd 7 (.rd 8 (.rd 9 (.rd 10 (.rd 11 .done)))))))))))) (by kernel_rfl) (by kernel_rfl) ?_
          (repeat (first | (refine Plan.tree_read (v := ?_) rfl rfl ?_ ?_; rotate_left; (focus ((intro wS hSw; have hkS := (bcell hSw).1; go_simp); try with_reducible rfl)); simp only [Act.put, List.setIfInBounds_toArray, List.set_cons_zero, List.set_cons_succ]) | (refine Plan.tree_skip rfl rfl ?_; simp only [Act.put, List.setIfInBounds_toArray, List.set_cons_zero, List.set_cons_succ])))
          refine Plan.tree_done ?_
          have hif : (if 0 < (if (un : Int) - fr < kv then (un : Int) - fr else kv) then (if (un : Int) - fr < kv then (un : Int) - fr else kv) else 0) = (n : Int) := by rw [hn2.out]; split <;> split <;> omega
          simp only [hif]
          have hnu : fr + n ≤ un := by rw [hn.out, hfr.out, hun.out]; exact kept_le (by rw [← hfr.out, ← hun.out]; exact hfr3)
          obtain ⟨wd, hwd⟩ : ∃ x, x = wq.drew := ⟨_, rfl⟩
          try rw [← hwd]
          have hBd : Below wr.heap.size wr wd := by rw [hwd]; exact hBq.drew
          have d0 : wd.cell? ⟨wr.heap.size, 0, none⟩ = some (.int .i64 f) := by rw [hwd]; exact c0
          have d1 : wd.cell? ⟨wr.heap.size, 1, none⟩ = some (.int .i64 fr) := by rw [hwd]; exact c1
          have d2 : wd.cell? ⟨wr.heap.size, 2, none⟩ = some (.int .i64 un) := by rw [hwd]; exact c2
          have hzd : wr.heap.size < wd.heap.size := by rw [hwd]; exact hzq
          clear hwd c0 c1 c2 hBq hzq
          have hf8 : f < 8 := hH.out.1
          have hf9 : (0 : Int) ≤ (f : Int) ∧ (f : Int) < 8 := by omega
          go_upto_region 7 with fail
          refine Plan.wp_region_tree (.rd 0 (.rd 1 (.rd 2 (.rd 3 (.rd 4 (.rd 5 (.rd 6 .done))))))) (by kernel_rfl) (by kernel_rfl) ?_
          (repeat (first | (refine Plan.tree_read (v := ?_) rfl rfl ?_ ?_; rotate_left; (focus ((intro wS hSw; have hkS := (bcell hSw).1; go_simp); try with_reducible rfl)); simp only [Act.put, List.setIfInBounds_toArray, List.set_cons_zero, List.set_cons_succ]) | (refine Plan.tree_skip rfl rfl ?_; simp only [Act.put, List.setIfInBounds_toArray, List.set_cons_zero, List.set_cons_succ])))
          refine Plan.tree_done ?_
          go_upto_region 8 with fail
          have hDd := (hD0.out.below hBd).drew
          obtain ⟨wz, hwz⟩ : ∃ x, x = wd.drew := ⟨_, rfl⟩
          rw [← hwz] at hDd ⊢
          have k1 : wz.cell? ⟨wr.heap.size, 1, none⟩ = some (.int .i64 fr) := by rw [hwz]; exact d1
          have k2 : wz.cell? ⟨wr.heap.size, 2, none⟩ = some (.int .i64 un) := by rw [hwz]; exact d2
          have hBz : Below wr.heap.size wr wz := by rw [hwz]; exact hBd.drew
          have hzz : wr.heap.size < wz.heap.size := by rw [hwz]; exact hzd
          obtain ⟨X, hX⟩ : ∃ x, Hid (x = crD keep s.q s.data k f) := ⟨_, rfl⟩
          have hlX : X.length = (s.data f).length := by rw [hX.out]; exact crD_len hok keep k f hf8
          have k3 : wz.cell? ⟨b, f * 2, none⟩ = some (.slice (ad (m.dA f)) X.length (m.dc f)) := by rw [hX.out]; exact hDd.cd f hf8
          have hrow : wz.ownsRow (b + 1) 5 1 (.slice (ad (m.dA f)) X.length (m.dc f)) X.length (bytesV X) := by rw [hX.out]; exact hDd.rd f hf8
          have hroom := owns_room hrow
          have hle : un ≤ X.length := by rw [hlX]; exact hH.out.2.2
          have hcap : un ≤ m.dc f := by omega
          have nb : some b ≠ m.dA f := fun e => by have := hDd.dlt hf8 e.symm; omega
          have nz : some wr.heap.size ≠ m.dA f := fun e => by have := hD0.out.dlt hf8 e.symm; omega
          have hbz2 : b < wz.heap.size := by omega
          have e5 : IntKind.i64.wrap ((fr : Int) + (n : Int)) = (fr : Int) + (n : Int) := by simp [IntKind.wrap, IntKind.signed, IntKind.bits]; omega
          have e6 : (0 : Int) ≤ (fr : Int) + (n : Int) := by omega
          have e7 : (fr : Int) + (n : Int) ≤ (un : Int) := by omega
          have e8 : (un : Int) ≤ (m.dc f : Int) := by omega
          replace hDd := Lib.hid hDd
          replace hrow := Lib.hid hrow
          replace hlX := Lib.hid hlX
          clear hwz hBd d0 d1 d2 hzd
          refine Plan.wp_region_grown (m.dA f) (.rd 0 (.rd 1 (.rd 2 (.rd 3 (.rd 4 (.rd 5 (.rd 6 (.rd 7 (.rd 8 (.rd 9 (.rd 10 (.wr 11 .done)))))))))))) (by kernel_rfl) (by kernel_rfl) ?_
          (repeat (first | (refine Plan.tree_read (v := ?_) rfl rfl ?_ ?_; rotate_left; (focus ((intro wS hSw; have hkS := Plan.grown_cells hSw; go_simp); try with_reducible rfl)); simp only [Act.put, List.setIfInBounds_toArray, List.set_cons_zero, List.set_cons_succ]) | (refine Plan.tree_skip rfl rfl ?_; simp only [Act.put, List.setIfInBounds_toArray, List.set_cons_zero, List.set_cons_succ])))
          refine Plan.tree_write rfl (fun K hK => ?_)
          refine step_clear_own _ (by rfl) _ 69 5 (by rfl) (.int .u8 0) 1 Try.underlying69 Try.zeroByte rfl (fun v hv => by obtain rfl := List.mem_singleton.1 hv; rfl) _ _ _ _ _ hrow.out (fr + n) (un - (fr + n)) _ _ (by rfl) ?_ ?_ ?_
          · intro hm0
            obtain ⟨gd, hgd⟩ := ad_addr hrow.out (by omega)
            refine ⟨gd, by rw [hgd]; rfl, ?_⟩
            rw [if_neg (by omega), hgd]
            show some (Addr.add ⟨gd, 0, none⟩ _) = _
            rw [Addr.add_lit]
            congr 2 <;> omega
          · omega
          intro w1 hown1 hgr1
          rw [ad_block] at hgr1
          have hown2 : w1.ownsRow (b + 1) 5 1 (.slice (ad (m.dA f)) X.length (m.dc f)) X.length (bytesV (zer X (fr + n) un)) := by rw [← zer_bytes X (show fr + n ≤ un by omega)]; exact hown1
          have hgr2 := Plan.grown_go (Plan.grown_drew _ _) hgr1
          refine hK.out _ _ hgr2 ?_
          clear hK K hown1 hgr1
          try simp only [Act.put, List.setIfInBounds_toArray, List.set_cons_zero, List.set_cons_succ]
          refine Plan.tree_done ?_
          have hD1 : DiskAt w1 b m { s with data := crD keep s.q s.data (k + 1), dur := crU keep s.q s.dur k } := by
            have hzl : (zer X (fr + n) un).length = X.length := zer_len (by omega) hle
            rw [← hzl] at hown2
            have := hDd.out.poke hf8 hgr2 (by rw [hzl, hX.out]) hown2
            rw [hHd.out, ← hX.out]
            exact this
          have hW1 : Wri b m w w1 := (hW.trans (Wri.of_below hBz) (fun _ _ => rfl)).trans (Wri.row hf8 hgr2) (fun _ _ => rfl)
          have q1 : w1.cell? ⟨wr.heap.size, 1, none⟩ = some (.int .i64 fr) := (Plan.grown_cells hgr2 wr.heap.size 1 hzz nz).trans k1
          have q2 := hD1.cu f hf8
          have q3 := hD1.fz (f * 2 + 1)
          replace hD1 := Lib.hid hD1
          replace hW1 := Lib.hid hW1
          clear hown2 hgr2 k1 k2 k3 hBz hzz
          by_cases hn0 : 0 < n
          · have hn1 : ((n : Int) > 0) := by omega
            go_wp2_with fail
            go_roundw
            case rel => exact ⟨k + 1, by omega, by go_num, by rw [hHu.out, if_pos hn0]; exact hD1.out.setDur hf8 (fr + n), hW1.out.trans (Wri.store b m w1 _ _) (fun _ _ => rfl)⟩
            case measure => simp [intOf]; omega
          · have hn1 : ¬ (0 : Int) < (n : Int) := by omega
            go_wp2_with fail
            go_roundw
            case rel => exact ⟨k + 1, by omega, by go_num, by rw [hHu.out, if_neg hn0]; exact hD1.out, hW1.out⟩
            case measure => simp [intOf]; omega
        · obtain rfl : n = 0 := by rw [hn.out]; unfold kept; rw [List.getElem?_eq_none (by omega)]
          obtain ⟨wd, hwd⟩ : ∃ x, x = wq := ⟨_, rfl⟩
          try rw [← hwd]
          have hBd : Below wr.heap.size wr wd := by rw [hwd]; exact hBq
          have d0 : wd.cell? ⟨wr.heap.size, 0, none⟩ = some (.int .i64 f) := by rw [hwd]; exact c0
          have d1 : wd.cell? ⟨wr.heap.size, 1, none⟩ = some (.int .i64 fr) := by rw [hwd]; exact c1
          have d2 : wd.cell? ⟨wr.heap.size, 2, none⟩ = some (.int .i64 un) := by rw [hwd]; exact c2
          have hzd : wr.heap.size < wd.heap.size := by rw [hwd]; exact hzq
          clear hwd c0 c1 c2 hBq hzq
          have hf8 : f < 8 := hH.out.1
          have hf9 : (0 : Int) ≤ (f : Int) ∧ (f : Int) < 8 := by omega
          go_upto_region 7 with fail
          refine Plan.wp_region_tree (.rd 0 (.rd 1 (.rd 2 (.rd 3 (.rd 4 (.rd 5 (.rd 6 .done))))))) (by kernel_rfl) (by kernel_rfl) ?_
          (repeat (first | (refine Plan.tree_read (v := ?_) rfl rfl ?_ ?_; rotate_left; (focus ((intro wS hSw; have hkS := (bcell hSw).1; go_simp); try with_reducible rfl)); simp only [Act.put, List.setIfInBounds_toArray, List.set_cons_zero, List.set_cons_succ]) | (refine Plan.tree_skip rfl rfl ?_; simp only [Act.put, List.setIfInBounds_toArray, List.set_cons_zero, List.set_cons_succ])))
          refine Plan.tree_done ?_
          go_upto_region 8 with fail
          have hDd := (hD0.out.below hBd).drew
          obtain ⟨wz, hwz⟩ : ∃ x, x = wd.drew := ⟨_, rfl⟩
          rw [← hwz] at hDd ⊢
          have k1 : wz.cell? ⟨wr.heap.size, 1, none⟩ = some (.int .i64 fr) := by rw [hwz]; exact d1
          have k2 : wz.cell? ⟨wr.heap.size, 2, none⟩ = some (.int .i64 un) := by rw [hwz]; exact d2
          have hBz : Below wr.heap.size wr wz := by rw [hwz]; exact hBd.drew
          have hzz : wr.heap.size < wz.heap.size := by rw [hwz]; exact hzd
          obtain ⟨X, hX⟩ : ∃ x, Hid (x = crD keep s.q s.data k f) := ⟨_, rfl⟩
          have hlX : X.length = (s.data f).length := by rw [hX.out]; exact crD_len hok keep k f hf8
          have k3 : wz.cell? ⟨b, f * 2, none⟩ = some (.slice (ad (m.dA f)) X.length (m.dc f)) := by rw [hX.out]; exact hDd.cd f hf8
          have hrow : wz.ownsRow (b + 1) 5 1 (.slice (ad (m.dA f)) X.length (m.dc f)) X.length (bytesV X) := by rw [hX.out]; exact hDd.rd f hf8
          have hroom := owns_room hrow
          have hle : un ≤ X.length := by rw [hlX]; exact hH.out.2.2
          have hcap : un ≤ m.dc f := by omega
          have nb : some b ≠ m.dA f := fun e => by have := hDd.dlt hf8 e.symm; omega
          have nz : some wr.heap.size ≠ m.dA f := fun e => by have := hD0.out.dlt hf8 e.symm; omega
          have hbz2 : b < wz.heap.size := by omega
          have e5 : IntKind.i64.wrap ((fr : Int)) = (fr : Int) := by simp [IntKind.wrap, IntKind.signed, IntKind.bits]; omega
          have e6 : (0 : Int) ≤ (fr : Int) := by omega
          have e7 : (fr : Int) ≤ (un : Int) := by omega
          have e8 : (un : Int) ≤ (m.dc f : Int) := by omega
          replace hDd := Lib.hid hDd
          replace hrow := Lib.hid hrow
          replace hlX := Lib.hid hlX
          clear hwz hBd d0 d1 d2 hzd
          refine Plan.wp_region_grown (m.dA f) (.rd 0 (.rd 1 (.rd 2 (.rd 3 (.rd 4 (.rd 5 (.rd 6 (.rd 7 (.rd 8 (.rd 9 (.rd 10 (.wr 11 .done)))))))))))) (by kernel_rfl) (by kernel_rfl) ?_
          (repeat (first | (refine Plan.tree_read (v := ?_) rfl rfl ?_ ?_; rotate_left; (focus ((intro wS hSw; have hkS := Plan.grown_cells hSw; go_simp); try with_reducible rfl)); simp only [Act.put, List.setIfInBounds_toArray, List.set_cons_zero, List.set_cons_succ]) | (refine Plan.tree_skip rfl rfl ?_; simp only [Act.put, List.setIfInBounds_toArray, List.set_cons_zero, List.set_cons_succ])))
          refine Plan.tree_write rfl (fun K hK => ?_)
          refine step_clear_own _ (by rfl) _ 69 5 (by rfl) (.int .u8 0) 1 Try.underlying69 Try.zeroByte rfl (fun v hv => by obtain rfl := List.mem_singleton.1 hv; rfl) _ _ _ _ _ hrow.out (fr) (un - (fr)) _ _ (by rfl) ?_ ?_ ?_
          · intro hm0
            obtain ⟨gd, hgd⟩ := ad_addr hrow.out (by omega)
            refine ⟨gd, by rw [hgd]; rfl, ?_⟩
            rw [if_neg (by omega), hgd]
            show some (Addr.add ⟨gd, 0, none⟩ _) = _
            rw [Addr.add_lit]
            congr 2 <;> omega
          · omega
          intro w1 hown1 hgr1
          rw [ad_block] at hgr1
          have hown2 : w1.ownsRow (b + 1) 5 1 (.slice (ad (m.dA f)) X.length (m.dc f)) X.length (bytesV (zer X (fr) un)) := by rw [← zer_bytes X (show fr ≤ un by omega)]; exact hown1
          have hgr2 := Plan.grown_go (Plan.grown_drew _ _) hgr1
          refine hK.out _ _ hgr2 ?_
          clear hK K hown1 hgr1
          try simp only [Act.put, List.setIfInBounds_toArray, List.set_cons_zero, List.set_cons_succ]
          refine Plan.tree_done ?_
          have hD1 : DiskAt w1 b m { s with data := crD keep s.q s.data (k + 1), dur := crU keep s.q s.dur k } := by
            have hzl : (zer X (fr) un).length = X.length := zer_len (by omega) hle
            rw [← hzl] at hown2
            have := hDd.out.poke hf8 hgr2 (by rw [hzl, hX.out]) hown2
            rw [hHd.out, ← hX.out]
            exact this
          have hW1 : Wri b m w w1 := (hW.trans (Wri.of_below hBz) (fun _ _ => rfl)).trans (Wri.row hf8 hgr2) (fun _ _ => rfl)
          have q1 : w1.cell? ⟨wr.heap.size, 1, none⟩ = some (.int .i64 fr) := (Plan.grown_cells hgr2 wr.heap.size 1 hzz nz).trans k1
          have q2 := hD1.cu f hf8
          have q3 := hD1.fz (f * 2 + 1)
          replace hD1 := Lib.hid hD1
          replace hW1 := Lib.hid hW1
          clear hown2 hgr2 k1 k2 k3 hBz hzz
          go_wp2_with fail
          go_roundw
          case rel => exact ⟨k + 1, by omega, by go_num, by rw [hHu.out, if_neg (by omega)]; exact hD1.out, hW1.out⟩
          case measure => simp [intOf]; omega
      · obtain rfl : k = nq := by omega
        obtain ⟨dd, hdd⟩ : ∃ x, Hid (x = crD keep s.q s.data k) := ⟨_, rfl⟩
        obtain ⟨uu, huu⟩ : ∃ x, Hid (x = crU keep s.q s.dur k) := ⟨_, rfl⟩
        have hul : Hid (∀ f, f < 8 → uu f ≤ (dd f).length) := fun f hf => by rw [hdd.out, huu.out, crD_len hok keep k f hf]; exact crU_le hok keep k f hf
        have hdl : Hid (∀ f, f < 8 → (dd f).length ≤ 16777216) := fun f hf => by rw [hdd.out, crD_len hok keep k f hf]; exact hok.len f hf
        have hD0 : DiskAt wr b m { s with data := dd, dur := uu } := by rw [hdd.out, huu.out]; exact hD
        have hS2 : Hid (crash s keep = { data := fun f => (dd f).take (uu f), dur := uu, q := [], down := true, lost := s.lost, armed := 0, keep := [] }) := by show _ = _; rw [hS.out, hdd.out, huu.out, hnq.out]
        replace hdd := trivial
        clear huu hS hD
        obtain ⟨wf, rfl⟩ : ∃ x, x = wr := ⟨_, rfl⟩
        go_wp2_with fail
        go_loopw [65] (fun i wr => ∃ k : Nat, k ≤ 8 ∧ i = .int .i64 k ∧ DiskAt wr b m { s with data := fun f => if f < k then (dd f).take (uu f) else dd f, dur := uu } ∧ Wri b m w wr) (fun i _ => 8 - (intOf i).toNat)
        case atStart => exact ⟨0, by omega, rfl, by simpa using hD0, hW⟩
        case round =>
          obtain ⟨f, hf, rfl, hDf, hWf⟩ := hrel
          by_cases hlt8 : f < 8
          · have hf9 : (0 : Int) ≤ (f : Int) ∧ (f : Int) < 8 := by omega
            have hb1 := hDf.lt
            obtain ⟨X, hX⟩ : ∃ x, Hid (x = dd f) := ⟨_, rfl⟩
            obtain ⟨u, hu⟩ : ∃ x, Hid (x = uu f) := ⟨_, rfl⟩
            have hcd := hDf.cd f hlt8
            have hcu := hDf.cu f hlt8
            have hrd := hDf.rd f hlt8
            simp only [if_neg (Nat.lt_irrefl f)] at hcd hrd
            rw [← hX.out] at hcd hrd
            replace hcu : wr.cell? ⟨b, f * 2 + 1, none⟩ = some (.int .i64 u) := by rw [hu.out]; exact hcu
            have hfz := hDf.fz (f * 2)
            have huX : u ≤ X.length := by rw [hu.out, hX.out]; exact hul.out f hlt8
            have hcap := owns_room hrd
            have e1 : (u : Int) ≤ (m.dc f : Int) := by omega
            have e2 : (0 : Int) ≤ (u : Int) := by omega
            replace hDf := Lib.hid hDf
            replace hWf := Lib.hid hWf
            replace hrd := Lib.hid hrd
            go_upto_region 15 with fail
            refine Plan.wp_region_below 21 [(0, true), (1, true), (2, true), (3, true), (4, true), (5, true), (6, true), (7, true), (8, true), (9, true), (10, true), (11, true), (12, true), (13, true), (14, true), (15, true), (16, true), (17, true), (18, true), (19, true), (20, true), (21, false)] (by kernel_rfl) (by kernel_rfl) ?_
            (repeat (first | (refine Plan.plan_read (v := ?_) rfl rfl ?_ ?_; rotate_left; (focus ((intro wS hSw; have hkS := (bcell hSw).1; go_simp); try with_reducible rfl)); simp only [Act.put, List.setIfInBounds_toArray, List.set_cons_zero, List.set_cons_succ]) | (refine Plan.plan_skip rfl rfl ?_; simp only [Act.put, List.setIfInBounds_toArray, List.set_cons_zero, List.set_cons_succ])))
            (refine Plan.plan_last rfl (fun K hK => ?_); go_simp; refine hK.out _ _ ?_; clear hK K; try simp only [Act.put, List.setIfInBounds_toArray, List.set_cons_zero, List.set_cons_succ])
            have hDn : DiskAt (wr.setCell ⟨b, f * 2, none⟩ (.slice (ad (m.dA f)) u (m.dc f))).drew b m { s with data := fun g => if g < f + 1 then (dd g).take (uu g) else dd g, dur := uu } := by
              have hxl : (X.take u).length = u := by rw [List.length_take]; omega
              have hx := owns_take hrd.out huX
              rw [Nat.mul_one, bytesV_take] at hx
              have h0 := DiskAt.setData hDf.out hlt8 (o := m.dA f) (c := m.dc f) (x := X.take u) (by rw [hxl]; exact hx) (fun g hg hne => hDf.out.ap f g hlt8 hg (Ne.symm hne)) (hDf.out.al f hlt8) (fun a e => (hDf.out.ak a e).2.1 f hlt8)
              rw [hxl, upd_self, upd_self] at h0
              refine DiskAt.drew (DiskAt.congr h0 (fun g hg => ?_) (fun _ _ => rfl) rfl rfl rfl rfl rfl)
              show (if g < f + 1 then _ else _) = upd _ _ _ _
              by_cases e : g = f
              · subst e; rw [if_pos (by omega), upd_same, hX.out, hu.out]
              · rw [upd_other _ _ e]
                by_cases q : g < f
                · rw [if_pos (by omega)]; exact (if_pos q).symm
                · rw [if_neg (by omega)]; exact (if_neg q).symm
            have hWn : Wri b m w (wr.setCell ⟨b, f * 2, none⟩ (.slice (ad (m.dA f)) u (m.dc f))).drew := hWf.out.trans ((Wri.store b m wr (f * 2) _).trans (Wri.of_below (Below.refl _ _).drew) (fun _ _ => rfl)) (fun _ _ => rfl)
            replace hDn := Lib.hid hDn
            replace hWn := Lib.hid hWn
            clear hcd hcu
            go_wp2_with fail
            go_roundw
            case rel => exact ⟨f + 1, by omega, by go_num, hDn.out, hWn.out⟩
            case measure => simp [intOf]; omega
          · obtain rfl : f = 8 := by omega
            have c16 := hDf.cl
            have c17 := hDf.cn
            have c19 := hDf.ca
            have c20 := hDf.ck
            have z16 := hDf.fz 16
            have z17 := hDf.fz 17
            have z19 := hDf.fz 19
            have z20 := hDf.fz 20
            have hDg := Lib.hid (hDf.congr (s' := { s with data := fun f => (dd f).take (uu f), dur := uu }) (fun f hf => (if_pos hf).symm) (fun _ _ => rfl) rfl rfl rfl rfl rfl)
            replace hWf := Lib.hid hWf
            clear hDf
            go_wp2_with fail
            go_end0
            refine ⟨rfl, { m with lA := none, lc := 0, kA := none, kc := 0 }, ?_, ?_⟩
            · rw [hS2.out]
              have d1 := DiskAt.setList hDg.out (o := none) (c := 0) (q := []) (World.ownsRow_nil _ _ _ _) (fun f hf => by cases m.dA f <;> simp) (fun _ _ => by simp)
              have d2 := d1.setArmed 0
              have d3 := DiskAt.setKeep d2 (A := none) (l := []) (c := 0) (fun h => absurd h (by simp)) (fun _ h => by cases h) (fun _ h => by cases h)
              exact d3.setDown true
            · have k1 : Wri b m w _ := (((hWf.out.trans (Wri.store b m wr 16 (.slice none 0 0)) (fun _ _ => rfl)).trans (Wri.store b m _ 19 (.int .i64 0)) (fun _ _ => rfl)).trans (Wri.store b m _ 20 (.slice none 0 0)) (fun _ _ => rfl)).trans (Wri.store b m _ 17 (.bool true)) (fun _ _ => rfl)
              exact ⟨k1.os, k1.tape, k1.output, k1.size, k1.stp.block, fun k hk => by
                rcases hk with e | e | e | ⟨a, e, _⟩
                · exact .inl (.inl e)
                · exact .inl (.inr (.inl e))
                · cases e
                · cases e⟩
end Go.Proofs.Ytmnimcdbfolhaaa
