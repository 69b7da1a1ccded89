/- The stable sort's walks: stableCmpFunc, SortStableFunc. -/
import Derived.Test.YtminphldifncaaaDoorSW5
set_option linter.unusedSimpArgs false
set_option linter.unusedVariables false
namespace Go.Proofs.YtminphldifncaaaDoor
open Go.Shelf Go.RowKit Go.Lib Go.Sort
variable {α : Type} [Inhabited α]

/-- Where the sort stands: the row holds d, of which so much is sorted. -/
def StAt (enc : α → List Value) (cf : α → α → Int) (blk off : Nat) (d0 : Array α) (w0 : World) (P : Array α → Prop) (w : World) : Prop := ∃ d : Array α, P d ∧ SWK enc 7 w0 blk off d w

set_option maxHeartbeats 8000000 in
set_option maxRecDepth 1000000 in
/-- The first pass: blocks of 20. -/
theorem st_stable (enc : α → List Value) (cf : α → α → Int) (g : Nat) (cb : Array Value) (blk off cap : Nat) (d0 : Array α) (w0 : World) (hS : SWO (ltOf cf))
    (eg : ∀ args w, (callFunc g args).run Tryd.prog w = .ok (.enter g args) w) (hcmp : CmpLays Tryd.prog g cb enc 7 cf blk off d0.size w0) (R : RowK enc 7 w0 blk off d0) (hsz : d0.size < 1152921504606846976) :
    Calls Tryd.prog 58 #[.slice (some ⟨blk, off, none⟩) d0.size cap, .int .i64 d0.size, .func (.func g) #[] cb] w0 fun e w' =>
      e = .returned (.tuple #[]) ∧ StAt enc cf blk off d0 w0 (fun d => ST.Stab (ltOf cf) d0.toList d.toList) w' := by
  have CI : Hid (∀ (a b : Nat) (d : Array α) (w : World), a ≤ b → b ≤ d0.size → d.size = d0.size → SWK enc 7 w0 blk off d w →
    Calls Tryd.prog 69 #[.slice (some ⟨blk, off, none⟩) d0.size cap, .int .i64 a, .int .i64 b, .func (.func g) #[] cb] w fun e w' =>
      e = .returned (.tuple #[]) ∧ Aside (SWK enc 7 w0 blk off (Sort.insertionSort (ltOf cf) d a b) w')) := fun a b d w h1 h2 h3 h4 => st_ins enc cf g cb blk off cap d0 w0 eg hcmp R (by omega) a b d w h1 h2 h3 h4
  have CS : Hid (∀ (a m b : Nat) (d : Array α) (w : World), a < m → m < b → b ≤ d0.size → d.size = d0.size → SWK enc 7 w0 blk off d w →
    Calls Tryd.prog 70 #[.slice (some ⟨blk, off, none⟩) d0.size cap, .int .i64 a, .int .i64 m, .int .i64 b, .func (.func g) #[] cb] w fun e w' =>
      e = .returned (.tuple #[]) ∧ Aside (SWK enc 7 w0 blk off (ST.symM (ltOf cf) a m b d) w')) := fun a m b d w h1 h2 h3 h4 h5 => st_sym stL enc cf g cb blk off cap d0 w0 eg hcmp R (by omega) (b - a) a m b d w (Nat.le_refl _) h1 h2 h3 h4 h5
  have S0 : Hid (SWK enc 7 w0 blk off d0 w0) := SWK.start R.hH
  obtain ⟨n, hn⟩ : ∃ n, n = d0.size := ⟨_, rfl⟩
  have HN : Hid (n = d0.size) := hn
  rw [← hn] at CI CS hsz ⊢
  clear hcmp hn
  go_enter Tryd.func58, Tryd.ntmps58
  go_wp2_with fail
  go_loopg [7, 8] n (fun gq s7 s8 wr => ∃ (q x : Nat) (d : Array α), s7 = .int .i64 x ∧ s8 = .int .i64 ((x + 20 : Nat) : Int) ∧ x ≤ n ∧ n - x ≤ gq ∧ Hid (x = q * 20) ∧ Hid (ST.Done (ltOf cf) d0 d 20 (q * 20) ∧ ST.Same d0 d (q * 20)) ∧ Hid (SWK enc 7 w0 blk off d wr))
  case atStart => exact ⟨0, 0, d0, rfl, rfl, by omega, by omega, rfl, ⟨ST.done_zero _ _ _, fun _ _ => rfl⟩, S0⟩
  case round =>
    clear S0
    obtain ⟨q, x, d, rfl, rfl, hx, hg, HX, HD, S1⟩ := hrel
    by_cases hlt : x + 20 ≤ n
    · have hltz : (x : Int) + 20 ≤ (n : Int) := by omega
      have c := CI.out x (x + 20) d wr (by omega) hlt (by have := HD.out.1.1; have := HN.out; omega) S1.out
      have K : Hid _ := ST.done_ins (ltOf cf) hS HD.out.1 HD.out.2 (by have := HX.out; have := HN.out; omega) (q * 20 + 20) (by have := HX.out; have := HN.out; omega)
      clear S1 HD
      go_wp2_with fail
      go_at_call 69
      refine c.mono ?_
      rintro e w1 ⟨rfl, T1⟩
      have S2 : Hid _ := T1.out
      clear T1 c
      go_wp2_with fail
      go_roundg (n - (x + 20))
      case measure => omega
      case rel =>
        have hx20 := HX.out
        subst hx20
        exact ⟨q + 1, q * 20 + 20, _, by congr 1, by congr 1 <;> omega, hlt, by omega, (by show _ = _; omega), (by show _ ∧ _; rw [show (q + 1) * 20 = q * 20 + 20 by omega]; exact K.out), S2⟩
    · have hltz : ¬ (x : Int) + 20 ≤ (n : Int) := by omega
      have c := CI.out x n d wr hx (Nat.le_refl _) (by have := HD.out.1.1; have := HN.out; omega) S1.out
      have K : Hid (ST.Done (ltOf cf) d0 (Sort.insertionSort (ltOf cf) d x n) 20 d0.size) := by
        have hx20 := HX.out
        have hn0 := HN.out
        subst hx20
        exact ST.done_end _ (ST.done_ins (ltOf cf) hS HD.out.1 HD.out.2 (by omega) n (by omega)).1 (by omega)
      clear S1 HD
      go_wp2_with fail
      go_at_call 69
      refine c.mono ?_
      rintro e w1 ⟨rfl, T1⟩
      have S2 : Hid _ := T1.out
      clear T1 c HX hg hlt hltz
      generalize Sort.insertionSort (ltOf cf) d x n = dI at K S2
      go_wp2_with fail
      go_loopg [6] n (fun gq s6 wr => ∃ (bs : Nat) (d : Array α), s6 = .int .i64 bs ∧ 0 < bs ∧ bs ≤ 2 * n + 20 ∧ n - bs ≤ gq ∧ Hid (ST.Done (ltOf cf) d0 d bs d0.size) ∧ Hid (SWK enc 7 w0 blk off d wr))
      case atStart => exact ⟨20, dI, rfl, by omega, by omega, by omega, K, S2⟩
      case round =>
        clear K S2
        obtain ⟨bs, d, rfl, hb0, hbn, hg, K, S2⟩ := hrel
        by_cases hbs : bs < n
        · have hbz : (bs : Int) < (n : Int) := by omega
          have KR : Hid (ST.Rest (ltOf cf) d0 d bs 0) := ST.done_rest _ K.out
          have KS : Hid (d.size = d0.size) := K.out.1
          clear K
          go_wp2_with fail
          go_loopg [7, 8] n (fun gq s7 s8 wr => ∃ (q x : Nat) (d : Array α), s7 = .int .i64 x ∧ s8 = .int .i64 ((x : Int) + 2 * (bs : Int)) ∧ x ≤ n ∧ n - x ≤ gq ∧ Hid (x = q * (2 * bs)) ∧ Hid (ST.Done (ltOf cf) d0 d (2 * bs) (q * (2 * bs)) ∧ ST.Rest (ltOf cf) d0 d bs (q * (2 * bs))) ∧ Hid (SWK enc 7 w0 blk off d wr))
          case atStart => exact ⟨0, 0, d, rfl, by congr 1 <;> omega, by omega, by omega, (by show _ = _; simp), (by show _ ∧ _; rw [Nat.zero_mul]; exact ⟨⟨KS.out, fun _ h _ => absurd h (by omega)⟩, KR.out⟩), S2⟩
          case round =>
            clear S2 KR KS
            obtain ⟨q, x, d, rfl, rfl, hx, hg2, HX, HD, S2⟩ := hrel
            have HZ : d.size = n := by have := HD.out.1.1; have := HN.out; omega
            have HZ' : Hid _ := HZ
            clear HZ
            by_cases hlt : x + 2 * bs ≤ n
            · have hltz : (x : Int) + 2 * (bs : Int) ≤ (n : Int) := by omega
              have c := CS.out x (x + bs) (x + 2 * bs) d wr (by omega) (by omega) hlt (by have := HZ'.out; have := HN.out; omega) S2.out
              have K : Hid _ := ST.done_merge (ltOf cf) hS HD.out.1 HD.out.2 (q * (2 * bs) + bs) (q * (2 * bs) + 2 * bs) rfl (by have := HX.out; have := HN.out; omega) (by have := HX.out; have := HN.out; omega)
              clear S2 HD HZ'
              go_wp2_with fail
              go_at_call 70
              refine c.mono ?_
              rintro e w1 ⟨rfl, T1⟩
              have S3 : Hid _ := T1.out
              clear T1 c
              go_wp2_with fail
              go_roundg (n - (x + 2 * bs))
              case measure => omega
              case rel =>
                have hx20 := HX.out
                subst hx20
                exact ⟨q + 1, q * (2 * bs) + 2 * bs, _, by congr 1 <;> simp, by congr 1 <;> omega, hlt, by omega, (by show _ = _; rw [Nat.add_mul, Nat.one_mul]), (by show _ ∧ _; rw [Nat.add_mul, Nat.one_mul]; exact K.out), S3⟩
            · have hltz : ¬ (x : Int) + 2 * (bs : Int) ≤ (n : Int) := by omega
              by_cases hm : x + bs < n
              · have hmz : (x : Int) + (bs : Int) < (n : Int) := by omega
                have c := CS.out x (x + bs) n d wr (by omega) hm (Nat.le_refl _) (by have := HZ'.out; have := HN.out; omega) S2.out
                have K : Hid (ST.Done (ltOf cf) d0 (ST.symM (ltOf cf) x (x + bs) n d) (2 * bs) d0.size) := by
                  have hx20 := HX.out
                  have hn0 := HN.out
                  subst hx20
                  exact ST.done_end _ (ST.done_merge (ltOf cf) hS HD.out.1 HD.out.2 (q * (2 * bs) + bs) n rfl (by omega) (by omega)).1 (by omega)
                clear S2 HD HZ'
                go_wp2_with fail
                go_at_call 70
                refine c.mono ?_
                rintro e w1 ⟨rfl, T1⟩
                have S3 : Hid _ := T1.out
                clear T1 c
                go_wp2_with fail
                go_roundg (n - 2 * bs)
                case measure => omega
                case rel => exact ⟨2 * bs, _, by congr 1 <;> omega, by omega, by omega, by omega, K, S3⟩
              · have hmz : ¬ (x : Int) + (bs : Int) < (n : Int) := by omega
                have K : Hid (ST.Done (ltOf cf) d0 d (2 * bs) d0.size) := ST.done_tail _ HD.out.1 HD.out.2 (by have := HX.out; have := HN.out; omega)
                clear HD HZ'
                go_wp2_with fail
                go_roundg (n - 2 * bs)
                case measure => omega
                case rel => exact ⟨2 * bs, _, by congr 1 <;> omega, by omega, by omega, by omega, K, S2⟩
        · have hbz : ¬ (bs : Int) < (n : Int) := by omega
          go_wp2_with fail
          go_end0
          exact ⟨rfl, d, ST.done_all _ K.out (by have := HN.out; omega), S2.out⟩

set_option maxHeartbeats 1000000 in
/-- The stable sort: the row holds what it held, ascending, equals in their order. -/
theorem st_sort (enc : α → List Value) (cf : α → α → Int) (g : Nat) (cb : Array Value) (blk off cap : Nat) (d0 : Array α) (w0 : World) (hS : SWO (ltOf cf))
    (eg : ∀ args w, (callFunc g args).run Tryd.prog w = .ok (.enter g args) w) (hcmp : CmpLays Tryd.prog g cb enc 7 cf blk off d0.size w0) (R : RowK enc 7 w0 blk off d0) (hsz : d0.size < 1152921504606846976) :
    Calls Tryd.prog 34 #[.slice (some ⟨blk, off, none⟩) d0.size cap, .func (.func g) #[] cb] w0 fun e w' =>
      e = .returned (.tuple #[]) ∧ StAt enc cf blk off d0 w0 (fun d => ST.Stab (ltOf cf) d0.toList d.toList) w' := by
  have c := st_stable enc cf g cb blk off cap d0 w0 hS eg hcmp R hsz
  clear hcmp R
  go_enter Tryd.func34, Tryd.ntmps34
  go_wp2_with fail
  go_at_call 58
  refine c.mono ?_
  rintro e w1 ⟨rfl, T1⟩
  have T2 : Hid _ := T1
  clear T1 c
  go_wp2_with fail
  go_end0
  exact ⟨rfl, T2⟩
end Go.Proofs.YtminphldifncaaaDoor
