/- The like walks of the reference's functions. -/
import Derived.Test.YtanhhdfffggdmaaX5
namespace Go.Proofs.Ytanhhdfffggdmaa
open Go.RowKit FM
attribute [local go_sem] alloc_drewN setCell_drewN shape_drewN

theorem rhas_any (S : Option Addr) (sc : Nat) (l : List Int) (v : Int) (w : World) {B : Nat} (hS : IntsAt w B S l) (hl : l.length ≤ 9223372036854775807) :
    Calls Try.prog 27 #[.slice S l.length sc, .int .i64 v] w fun e w' => e = .returned (.bool (memB l v)) ∧ w = w' := by
  go_enter Try.func27, Try.ntmps27
  go_wp2_with fail
  go_loop [5] (fun i => ∃ k : Nat, k ≤ l.length ∧ i = .int .i64 k ∧ Hid (memB (l.take k) v = false)) (fun i => l.length - (intOf i).toNat)
  case atStart => exact ⟨0, Nat.zero_le _, rfl, by simp [Hid, memB]⟩
  case round =>
    obtain ⟨k, hk, rfl, hm⟩ := hrel
    by_cases hlt : k < l.length
    · obtain ⟨b, off, x, rfl, hb, hx, c0⟩ := ints_at hS hlt
      by_cases h : x = v
      · subst h
        have Hm : Hid (memB l x = true) := by
          show decide (x ∈ l) = true
          exact decide_eq_true (List.mem_of_getElem? hx.out)
        have hb' : (x == x) = true := by simp
        go_wp2_with fail
        go_ret
        exact ⟨ret_bool Hm.out.symm, rfl⟩
      · have hb' : (x == v) = false := by simp; exact h
        have Hm : Hid (memB (l.take (k + 1)) v = false) := by
          show memB (l.take (k + 1)) v = false
          rw [memB_snoc hx.out, hm.out]; simp; omega
        go_wp2_with fail
        go_round
        case rel => exact ⟨k + 1, by omega, by go_num, Hm⟩
        case measure => simp [intOf]; omega
    · obtain rfl : l.length = k := by omega
      rw [List.take_length] at hm
      go_wp2_with fail
      go_ret
      exact ⟨ret_bool hm.out.symm, rfl⟩

set_option maxHeartbeats 1000000 in
theorem excess_any (C : Option Addr) (cc : Nat) (A : List Arc) (FA : Option Addr) (fc : Nat) (fl : List Int) (v : Int) (w : World) {B B' : Nat} (hC : ArcsAt w B C A) (hF : IntsAt w B' FA fl) (hm : A.length ≤ 4096) (hcap : ∀ a ∈ A, a.2.2 ≤ 1125899906842624) (hfe : feas A fl) :
    Calls Try.prog 29 #[.slice C A.length cc, .slice FA fl.length fc, .int .i64 v] w fun e w' => e = .returned (.int .i64 (exc A fl v)) ∧ w = w' := by
  have hl := feas_len hfe
  have Hl := Lib.hid hl
  have Hfe := Lib.hid hfe
  rw [hl]
  clear hl hfe
  go_enter Try.func29, Try.ntmps29
  go_wp2_with fail
  go_loop [7, 8] (fun c i => ∃ k : Nat, k ≤ A.length ∧ i = .int .i64 k ∧ c = .int .i64 (exc (A.take k) (fl.take k) v)) (fun _ i => A.length - (intOf i).toNat)
  case atStart => exact ⟨0, Nat.zero_le _, rfl, by simp [exc]⟩
  case round =>
    obtain ⟨k, hk, rfl, rfl⟩ := hrel
    obtain ⟨c, hc⟩ : ∃ c, c = exc (A.take k) (fl.take k) v := ⟨_, rfl⟩
    rw [← hc]
    by_cases hlt : k < A.length
    · obtain ⟨b, off, x, y, z, rfl, hb, ha, c0, c1, c2⟩ := hC.at_ hlt
      obtain ⟨b2, off2, f, rfl, hb2, hf, d0⟩ := ints_at hF (k := k) (by have := Hl.out; omega)
      have hfk := feas_at Hfe.out ha.out hf.out
      have hz := hcap _ (List.mem_of_getElem? ha.out)
      have hz : z ≤ 1125899906842624 := hz
      have hfk : 0 ≤ f ∧ f ≤ z := hfk
      have hkf : feas (A.take k) (fl.take k) := by
        obtain ⟨e1, e2⟩ := af_of (A := A) (f := fl) Hl.out
        have h0 := (feas_iff (A.zip fl)).1 (by rw [e1, e2]; exact Hfe.out)
        have h1 := (feas_iff ((A.zip fl).take k)).2 (fun p hp => h0 p (List.mem_of_mem_take hp))
        simp only [arcs, flow, List.map_take] at h1
        have e1 : (A.zip fl).map (·.1) = A := e1
        have e2 : (A.zip fl).map (·.2) = fl := e2
        rw [e1, e2] at h1
        exact h1
      have hbd := exc_bd hkf (fun a ha => hcap a (List.mem_of_mem_take ha)) v
      have htl : (A.take k).length ≤ k := List.length_take_le _ _
      rw [← hc] at hbd
      have hsn := exc_snoc ha.out hf.out Hl.out v
      have HS := Lib.hid (And.intro hc hsn)
      have hbb : -4611686018427387904 ≤ c ∧ c ≤ 4611686018427387904 := by omega
      clear hc hsn hkf hbd htl
      by_cases h1 : x = v <;> by_cases h2 : y = v
      all_goals
        first
        | (have h1' : (x == v) = true := by simp; exact h1)
        | (have h1' : (x == v) = false := by simp; exact h1)
        first
        | (have h2' : (y == v) = true := by simp; exact h2)
        | (have h2' : (y == v) = false := by simp; exact h2)
        have H12 := Lib.hid (And.intro h1' h2')
        try subst h1
        try subst h2
        go_wp2_with fail
        go_round
        case rel =>
          obtain ⟨e1, e2⟩ := HS.out
          refine ⟨k + 1, by omega, by go_num, ?_⟩
          rw [e2, ← e1]
          have a1 := H12.out.1
          have a2 := H12.out.2
          simp [a1, a2, ind] <;> omega
        case measure => simp [intOf]; omega
    · obtain rfl : A.length = k := by omega
      have hallA : A.take A.length = A := List.take_length
      have hallF : fl.take A.length = fl := List.take_of_length_le (by have := Hl.out; omega)
      rw [hallA, hallF] at hc
      have Hc := Lib.hid hc
      clear hc hallA hallF
      go_wp2_with fail
      go_ret
      exact ⟨ret_int Hc.out, rfl⟩

set_option maxHeartbeats 1000000 in
theorem rcut_any (nn : Int) (C : Option Addr) (cc : Nat) (A : List Arc) (SA : Option Addr) (sc : Nat) (l : List Int) (w : World) {B B' : Nat} (hC : ArcsAt w B C A) (hS : IntsAt w B' SA l) (hl : l.length ≤ 9223372036854775807) (hm : A.length ≤ 4096) (hcap : ∀ a ∈ A, 0 ≤ a.2.2 ∧ a.2.2 ≤ 1125899906842624) :
    Calls Try.prog 25 #[.int .i64 nn, .slice C A.length cc, .slice SA l.length sc] w fun e w' => e = .returned (.int .i64 (cut A (memB l))) ∧ w = w' := by
  go_enter Try.func25, Try.ntmps25
  go_wp2_with fail
  go_loop [7, 8] (fun c i => ∃ k : Nat, k ≤ A.length ∧ i = .int .i64 k ∧ c = .int .i64 (cut (A.take k) (memB l))) (fun _ i => A.length - (intOf i).toNat)
  case atStart => exact ⟨0, Nat.zero_le _, rfl, by simp [cut]⟩
  case round =>
    obtain ⟨k, hk, rfl, rfl⟩ := hrel
    have hcl := cut_le (A := A.take k) (S := memB l) (fun a ha => hcap a (List.mem_of_mem_take ha))
    have hcn := cut_nonneg (A := A.take k) (S := memB l) (fun a ha => (hcap a (List.mem_of_mem_take ha)).1)
    have htl : (A.take k).length ≤ k := List.length_take_le _ _
    obtain ⟨c, hc⟩ : ∃ c, c = cut (A.take k) (memB l) := ⟨_, rfl⟩
    rw [← hc] at hcl hcn ⊢
    by_cases hlt : k < A.length
    · obtain ⟨b, off, x, y, z, rfl, hb, ha, c0, c1, c2⟩ := hC.at_ hlt
      have hz := hcap _ (List.mem_of_getElem? ha.out)
      have hz : 0 ≤ z ∧ z ≤ 1125899906842624 := hz
      have hsn := cut_snoc ha.out (memB l)
      obtain ⟨p, hp⟩ : ∃ p, p = memB l x := ⟨_, rfl⟩
      obtain ⟨q, hq⟩ : ∃ q, q = memB l y := ⟨_, rfl⟩
      have k1 := rhas_any SA sc l x w hS hl
      have k2 := rhas_any SA sc l y w hS hl
      rw [← hp] at k1
      rw [← hq] at k2
      have HK := Lib.hid (And.intro k1 k2)
      have HS := Lib.hid (And.intro hc (And.intro hsn (And.intro hp hq)))
      clear hc hsn hp hq k1 k2
      cases p
      · go_wp2_with (go_at_call 27; refine HK.out.1.mono ?_; rintro e1 w1 ⟨rfl, rfl⟩)
        go_round
        case rel =>
          obtain ⟨e1, e2, e3, e4⟩ := HS.out
          refine ⟨k + 1, by omega, by go_num, ?_⟩
          rw [e2, ← e1]
          show _ = Value.int .i64 (c + ind (memB l x && !memB l y) z)
          rw [← e3]; simp [ind]
        case measure => simp [intOf]; omega
      · cases q
        all_goals
          go_wp2_with (go_at_call 27; (first | ((with_reducible refine HK.out.1.mono ?_); rintro e1 w1 ⟨rfl, rfl⟩) | ((with_reducible refine HK.out.2.mono ?_); rintro e1 w1 ⟨rfl, rfl⟩) | fail))
          go_round
          case rel =>
            obtain ⟨e1, e2, e3, e4⟩ := HS.out
            refine ⟨k + 1, by omega, by go_num, ?_⟩
            rw [e2, ← e1]
            show _ = Value.int .i64 (c + ind (memB l x && !memB l y) z)
            rw [← e3, ← e4]; simp [ind]
          case measure => simp [intOf]; omega
    · obtain rfl : A.length = k := by omega
      have hallA : A.take A.length = A := List.take_length
      rw [hallA] at hc
      have Hc := Lib.hid hc
      clear hc hallA
      go_wp2_with fail
      go_ret
      exact ⟨ret_int Hc.out, rfl⟩
end Go.Proofs.Ytanhhdfffggdmaa
