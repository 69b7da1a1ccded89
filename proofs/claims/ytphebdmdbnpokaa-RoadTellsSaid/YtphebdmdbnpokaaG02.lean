/- Joined of: FX2 FX3 FX4 FX5 FY1 FY2. -/
import Derived.Test.YtphebdmdbnpokaaFX1
import Derived.Test.YtphebdmdbnpokaaG11
/- The walk of flow.Route. -/
set_option linter.unusedSimpArgs false
set_option linter.unusedVariables false
namespace Go.Proofs.Ytphebdmdbnpokaa.FL
open Go.RowKit FM
attribute [local go_sem] alloc_drewN setCell_drewN shape_drewN
attribute [local go_sem ↓] Go.wp_at_zero Go.wp_at_succ

theorem flowOf_get : ∀ {A : List Arc} {L : List Int} {k : Nat} {a : Arc}, Res A L → A[k]? = some a → (flowOf A L)[k]? = some (a.2.2 - L.getD (2 * k) 0)
  | b :: A, x :: y :: L, 0, a, _, h => by
    obtain rfl : b = a := by simpa using h
    rfl
  | b :: A, x :: y :: L, k + 1, a, hr, h => by
    have := flowOf_get (k := k) (a := a) hr.2.2.2 (by simpa using h)
    show (flowOf A L)[k]? = _
    rw [this, show 2 * (k + 1) = 2 * k + 1 + 1 by omega]
    rfl
  | [], _, k, a, _, h => by simp at h
  | _ :: _, [], _, _, hr, _ => by simp [Res] at hr
  | _ :: _, [_], _, _, hr, _ => by simp [Res] at hr
theorem flowOf_len {A : List Arc} {L : List Int} (h : Res A L) : (flowOf A L).length = A.length := feas_len h.feas
def RouteNo (w : World) (e : Ending) (w' : World) : Prop := e = .returned (.tuple #[.slice none 0 0, .bool false]) ∧ Below w.heap.size w w'
def RouteYes (w : World) (n : Nat) (A : List Arc) (s t : Int) (e : Ending) (w' : World) : Prop :=
  ∃ f v R vs, e = .returned (.tuple #[vs, .bool true]) ∧ MaxOf n A s t f v R ∧ 0 ≤ v ∧ v ≤ 4611686018427387904 ∧ IntSl w' vs f ∧ Below w.heap.size w w'
theorem IntSl.of_arr {w : World} {g : Nat} {l : List Int} (c : Nat) (h : Arr w g l.length (fun j => .int .i64 (l.getD j 0))) (hg : g < w.heap.size) : IntSl w (.slice (some ⟨g, 0, none⟩) l.length c) l :=
  ⟨_, c, rfl, fun _ => ⟨g, 0, rfl, hg, fun j hj => by rw [Nat.zero_add]; exact (h j hj).1⟩⟩

end Go.Proofs.Ytphebdmdbnpokaa.FL

/- The walk of flow.inside: a side's nodes. -/
namespace Go.Proofs.Ytphebdmdbnpokaa.FL
open Go.RowKit FM

theorem info4 : (Try.prog.info? 4).map (fun i => (i.zero, i.size, i.bytes)) = some (some (.bool false), 1, 1) := by kernel_rfl
/-- The element at a place is a node, and greater than the one before. -/
def okAt (n : Int) (l : List Int) (k : Nat) : Prop := 0 ≤ l.getD k 0 ∧ l.getD k 0 < n ∧ (0 < k → l.getD (k - 1) 0 < l.getD k 0)
def asc (n : Int) (l : List Int) : Prop := ∀ k, k < l.length → okAt n l k
def sideOk (n s t : Int) (l : List Int) : Prop := asc n l ∧ s ∈ l ∧ t ∉ l
def memB (l : List Int) (v : Int) : Bool := decide (v ∈ l)
theorem memB_take_succ (l : List Int) (k : Nat) (hk : k < l.length) (v : Int) : memB (l.take (k + 1)) v = (memB (l.take k) v || (v == l.getD k 0)) := by
  have e : l.take (k + 1) = l.take k ++ [l.getD k 0] := by
    rw [List.take_add_one, List.getElem?_eq_getElem hk, List.getD_eq_getElem?_getD, List.getElem?_eq_getElem hk]
    rfl
  unfold memB
  rw [e, Bool.eq_iff_iff]
  simp only [List.mem_append, List.mem_singleton, Bool.or_eq_true, decide_eq_true_eq, beq_iff_eq]
def InsideSaid (w : World) (n : Nat) (s t : Int) (l : List Int) (e : Ending) (w' : World) : Prop :=
  ∃ vs b, e = .returned (.tuple #[vs, .bool b]) ∧ Below w.heap.size w w' ∧ (b = true ↔ sideOk n s t l) ∧ (b = true → ∃ g, vs = .slice (some ⟨g, 0, none⟩) n n ∧ w.heap.size ≤ g ∧ g < w'.heap.size ∧ Arr w' g n (fun j => .bool (memB l j)))

end Go.Proofs.Ytphebdmdbnpokaa.FL

/- The walk of flow.Check. -/
namespace Go.Proofs.Ytphebdmdbnpokaa.FL
open Go.RowKit FM
attribute [local go_sem] alloc_drewN setCell_drewN shape_drewN
attribute [local go_sem ↓] Go.wp_at_zero Go.wp_at_succ

def CheckOk (n : Int) (A : List Arc) (s t : Int) (fl side : List Int) : Prop :=
  Valid n A s t ∧ fl.length = A.length ∧ sideOk n s t side ∧ feas A fl ∧ (∀ v : Nat, (v : Int) < n → (v : Int) ≠ s → (v : Int) ≠ t → exc A fl v = 0) ∧ exc A fl s = cut A (memB side)
noncomputable def checkB (n : Int) (A : List Arc) (s t : Int) (fl side : List Int) : Bool := @decide (CheckOk n A s t fl side) (Classical.propDecidable _)
theorem checkB_true {n : Int} {A : List Arc} {s t : Int} {fl side : List Int} (h : CheckOk n A s t fl side) : checkB n A s t fl side = true := @decide_eq_true _ (Classical.propDecidable _) h
theorem checkB_false {n : Int} {A : List Arc} {s t : Int} {fl side : List Int} (h : ¬ CheckOk n A s t fl side) : checkB n A s t fl side = false := @decide_eq_false _ (Classical.propDecidable _) h
theorem checkB_of {n : Int} {A : List Arc} {s t : Int} {fl side : List Int} (h : checkB n A s t fl side = true) : CheckOk n A s t fl side := @of_decide_eq_true _ (Classical.propDecidable _) h
def CheckSaid (n : Int) (A : List Arc) (s t : Int) (fl side : List Int) (w : World) (e : Ending) (w' : World) : Prop := e = .returned (.bool (checkB n A s t fl side)) ∧ Below w.heap.size w w'
theorem CheckSaid.no {n : Int} {A : List Arc} {s t : Int} {fl side : List Int} {w w' : World} (h : ¬ CheckOk n A s t fl side) (hb : Below w.heap.size w w') : CheckSaid n A s t fl side w (.returned (.bool false)) w' := ⟨by rw [checkB_false h], hb⟩
theorem feas_snoc {A : List Arc} {f : List Int} {k : Nat} {a : Arc} {x : Int} (ha : A[k]? = some a) (hx : f[k]? = some x) (hl : f.length = A.length) (h : feas (A.take k) (f.take k)) (h0 : 0 ≤ x) (h1 : x ≤ a.2.2) : feas (A.take (k + 1)) (f.take (k + 1)) := by
  rw [List.take_add_one, List.take_add_one, ha, hx]
  exact feas_app h ⟨h0, h1, trivial⟩
theorem feas_at : ∀ {A : List Arc} {f : List Int} {k : Nat} {a : Arc} {x : Int}, feas A f → A[k]? = some a → f[k]? = some x → 0 ≤ x ∧ x ≤ a.2.2
  | b :: A, y :: f, 0, a, x, h, h1, h2 => by
    obtain rfl : b = a := by simpa using h1
    obtain rfl : y = x := by simpa using h2
    exact ⟨h.1, h.2.1⟩
  | b :: A, y :: f, k + 1, a, x, h, h1, h2 => feas_at (k := k) h.2.2 (by simpa using h1) (by simpa using h2)
  | [], [], k, a, x, _, h1, _ => by simp at h1
theorem exc_snoc {A : List Arc} {f : List Int} {k : Nat} {a : Arc} {x : Int} (ha : A[k]? = some a) (hx : f[k]? = some x) (hl : f.length = A.length) (v : Int) : exc (A.take (k + 1)) (f.take (k + 1)) v = exc (A.take k) (f.take k) v + ind (a.1 == v) x - ind (a.2.1 == v) x := by
  rw [List.take_add_one, List.take_add_one, ha, hx, exc_app v (by simp [hl])]
  simp [exc]; omega
theorem cut_snoc {A : List Arc} {k : Nat} {a : Arc} (ha : A[k]? = some a) (S : Int → Bool) : cut (A.take (k + 1)) S = cut (A.take k) S + ind (S a.1 && !S a.2.1) a.2.2 := by
  rw [cut_sum, cut_sum, List.take_add_one, ha, List.map_append, List.sum_append]
  simp
theorem exc_bd : ∀ {A : List Arc} {f : List Int}, feas A f → (∀ a ∈ A, a.2.2 ≤ 1125899906842624) → ∀ v, -(A.length * 1125899906842624 : Int) ≤ exc A f v ∧ exc A f v ≤ A.length * 1125899906842624
  | [], [], _, _, v => by simp [exc]
  | a :: A, x :: f, h, hc, v => by
    obtain ⟨i1, i2⟩ := exc_bd h.2.2 (fun b hb => hc b (List.mem_cons_of_mem _ hb)) v
    have := hc a List.mem_cons_self
    have h0 := h.1
    have h1 := h.2.1
    simp only [exc, List.length_cons]
    cases a.1 == v <;> cases a.2.1 == v <;> simp [ind] <;> omega
theorem cut_nonneg {S : Int → Bool} : ∀ {A : List Arc}, (∀ a ∈ A, 0 ≤ a.2.2) → 0 ≤ cut A S
  | [], _ => by simp [cut]
  | a :: A, h => by
    have ih := cut_nonneg (S := S) (A := A) fun b hb => h b (List.mem_cons_of_mem _ hb)
    have := ind_nonneg (b := S a.1 && !S a.2.1) (h a List.mem_cons_self)
    simp only [cut]; omega
end Go.Proofs.Ytphebdmdbnpokaa.FL

/- Walks of the small functions of the statements and of the reference: whether a list holds an integer, whether two lists are equal, the value of a flow, the capacity of a side's cut. -/
namespace Go.Proofs.Ytphebdmdbnpokaa.FL
open Go.RowKit FM
attribute [local go_sem] alloc_drewN setCell_drewN shape_drewN

theorem ints_at {w : World} {B : Nat} {S : Option Addr} {l : List Int} (h : IntsAt w B S l) {k : Nat} (hk : k < l.length) : ∃ b off x, S = some ⟨b, off, none⟩ ∧ b < B ∧ Hid (l[k]? = some x) ∧ w.cell? ⟨b, off + k, none⟩ = some (.int .i64 x) := by
  obtain ⟨b, off, rfl, hb, hc⟩ := h (by omega)
  refine ⟨b, off, l.getD k 0, rfl, hb, ?_, hc k hk⟩
  show l[k]? = _
  rw [List.getD_eq_getElem?_getD, List.getElem?_eq_getElem hk]; rfl
theorem memB_snoc {l : List Int} {k : Nat} {x v : Int} (hx : l[k]? = some x) : memB (l.take (k + 1)) v = (memB (l.take k) v || (v == x)) := by
  have hk := (List.getElem?_eq_some_iff.1 hx).1
  rw [memB_take_succ l k hk, List.getD_eq_getElem?_getD, hx]; rfl

def sameB (a b : List Int) : Bool := decide (a = b)
def SameSaid (a b : List Int) (w : World) (e : Ending) (w' : World) : Prop := e = .returned (.bool (sameB a b)) ∧ Below w.heap.size w w'
theorem take_ext {a b : List Int} (hl : a.length = b.length) (h : ∀ j, j < a.length → a[j]? = b[j]?) : a = b := by
  apply List.ext_getElem? ; intro j
  rcases Nat.lt_or_ge j a.length with g | g
  · exact h j g
  · rw [List.getElem?_eq_none g, List.getElem?_eq_none (by omega)]
def fewB (n : Int) (A : List Arc) : Bool := decide (n ≤ 10) && decide (A.length ≤ 24)
end Go.Proofs.Ytphebdmdbnpokaa.FL

/- The like walks of the reference's functions. -/
namespace Go.Proofs.Ytphebdmdbnpokaa.FL
open Go.RowKit FM
attribute [local go_sem] alloc_drewN setCell_drewN shape_drewN

theorem rhas_any (S : Option Addr) (sc : Nat) (l : List Int) (v : Int) (w : World) {B : Nat} (hS : IntsAt w B S l) (hl : l.length ≤ 9223372036854775807) :
    Calls Try.prog 54 #[.slice S l.length sc, .int .i64 v] w fun e w' => e = .returned (.bool (memB l v)) ∧ w = w' := by
  go_enter Try.func54, Try.ntmps54
  go_wp2_with fail
  go_loop [5] (fun i => ∃ k : Nat, k ≤ l.length ∧ i = .int .i64 k ∧ Hid (memB (l.take k) v = false)) (fun i => l.length - (intOf i).toNat)
  case atStart => exact ⟨0, Nat.zero_le _, rfl, by simp [Hid, memB]⟩
  case round =>
    obtain ⟨k, hk, rfl, hm⟩ := hrel
    by_cases hlt : k < l.length
    · obtain ⟨b, off, x, rfl, hb, hx, c0⟩ := ints_at hS hlt
      by_cases h : x = v
      · subst h
        have Hm : Hid (memB l x = true) := by
          show decide (x ∈ l) = true
          exact decide_eq_true (List.mem_of_getElem? hx.out)
        have hb' : (x == x) = true := by simp
        go_wp2_with fail
        go_ret
        exact ⟨ret_bool Hm.out.symm, rfl⟩
      · have hb' : (x == v) = false := by simp; exact h
        have Hm : Hid (memB (l.take (k + 1)) v = false) := by
          show memB (l.take (k + 1)) v = false
          rw [memB_snoc hx.out, hm.out]; simp; omega
        go_wp2_with fail
        go_round
        case rel => exact ⟨k + 1, by omega, by go_num, Hm⟩
        case measure => simp [intOf]; omega
    · obtain rfl : l.length = k := by omega
      rw [List.take_length] at hm
      go_wp2_with fail
      go_ret
      exact ⟨ret_bool hm.out.symm, rfl⟩

set_option maxHeartbeats 1000000 in
theorem rcut_any (nn : Int) (C : Option Addr) (cc : Nat) (A : List Arc) (SA : Option Addr) (sc : Nat) (l : List Int) (w : World) {B B' : Nat} (hC : ArcsAt w B C A) (hS : IntsAt w B' SA l) (hl : l.length ≤ 9223372036854775807) (hm : A.length ≤ 4096) (hcap : ∀ a ∈ A, 0 ≤ a.2.2 ∧ a.2.2 ≤ 1125899906842624) :
    Calls Try.prog 44 #[.int .i64 nn, .slice C A.length cc, .slice SA l.length sc] w fun e w' => e = .returned (.int .i64 (cut A (memB l))) ∧ w = w' := by
  go_enter Try.func44, Try.ntmps44
  go_wp2_with fail
  go_loop [7, 8] (fun c i => ∃ k : Nat, k ≤ A.length ∧ i = .int .i64 k ∧ c = .int .i64 (cut (A.take k) (memB l))) (fun _ i => A.length - (intOf i).toNat)
  case atStart => exact ⟨0, Nat.zero_le _, rfl, by simp [cut]⟩
  case round =>
    obtain ⟨k, hk, rfl, rfl⟩ := hrel
    have hcl := cut_le (A := A.take k) (S := memB l) (fun a ha => hcap a (List.mem_of_mem_take ha))
    have hcn := cut_nonneg (A := A.take k) (S := memB l) (fun a ha => (hcap a (List.mem_of_mem_take ha)).1)
    have htl : (A.take k).length ≤ k := List.length_take_le _ _
    obtain ⟨c, hc⟩ : ∃ c, c = cut (A.take k) (memB l) := ⟨_, rfl⟩
    rw [← hc] at hcl hcn ⊢
    by_cases hlt : k < A.length
    · obtain ⟨b, off, x, y, z, rfl, hb, ha, c0, c1, c2⟩ := hC.at_ hlt
      have hz := hcap _ (List.mem_of_getElem? ha.out)
      have hz : 0 ≤ z ∧ z ≤ 1125899906842624 := hz
      have hsn := cut_snoc ha.out (memB l)
      obtain ⟨p, hp⟩ : ∃ p, p = memB l x := ⟨_, rfl⟩
      obtain ⟨q, hq⟩ : ∃ q, q = memB l y := ⟨_, rfl⟩
      have k1 := rhas_any SA sc l x w hS hl
      have k2 := rhas_any SA sc l y w hS hl
      rw [← hp] at k1
      rw [← hq] at k2
      have HK := Lib.hid (And.intro k1 k2)
      have HS := Lib.hid (And.intro hc (And.intro hsn (And.intro hp hq)))
      clear hc hsn hp hq k1 k2
      cases p
      · go_wp2_with (go_at_call 54; refine HK.out.1.mono ?_; rintro e1 w1 ⟨rfl, rfl⟩)
        go_round
        case rel =>
          obtain ⟨e1, e2, e3, e4⟩ := HS.out
          refine ⟨k + 1, by omega, by go_num, ?_⟩
          rw [e2, ← e1]
          show _ = Value.int .i64 (c + ind (memB l x && !memB l y) z)
          rw [← e3]; simp [ind]
        case measure => simp [intOf]; omega
      · cases q
        all_goals
          go_wp2_with (go_at_call 54; (first | ((with_reducible refine HK.out.1.mono ?_); rintro e1 w1 ⟨rfl, rfl⟩) | ((with_reducible refine HK.out.2.mono ?_); rintro e1 w1 ⟨rfl, rfl⟩) | fail))
          go_round
          case rel =>
            obtain ⟨e1, e2, e3, e4⟩ := HS.out
            refine ⟨k + 1, by omega, by go_num, ?_⟩
            rw [e2, ← e1]
            show _ = Value.int .i64 (c + ind (memB l x && !memB l y) z)
            rw [← e3, ← e4]; simp [ind]
          case measure => simp [intOf]; omega
    · obtain rfl : A.length = k := by omega
      have hallA : A.take A.length = A := List.take_length
      rw [hallA] at hc
      have Hc := Lib.hid hc
      clear hc hallA
      go_wp2_with fail
      go_ret
      exact ⟨ret_int Hc.out, rfl⟩
end Go.Proofs.Ytphebdmdbnpokaa.FL

/- Walks of the reference's tests of a network. -/
namespace Go.Proofs.Ytphebdmdbnpokaa.FL
open Go.RowKit FM

def nodeB (n v : Int) : Bool := decide (0 ≤ v) && decide (v < n)
theorem node_true {n v : Int} (h0 : 0 ≤ v) (h1 : v < n) : nodeB n v = true := by simp [nodeB, h0, h1]
theorem node_false {n v : Int} (h : ¬ (0 ≤ v ∧ v < n)) : nodeB n v = false := by
  unfold nodeB
  by_cases a : 0 ≤ v
  · have b : ¬ v < n := fun b => h ⟨a, b⟩
    simp [b]
  · simp [a]
theorem node_any (n v : Int) (w : World) : Calls Try.prog 52 #[.int .i64 n, .int .i64 v] w fun e w' => e = .returned (.bool (nodeB n v)) ∧ w = w' := by
  by_cases h0 : 0 ≤ v
  · by_cases h1 : v < n
    · have H := Lib.hid (node_true h0 h1)
      go_enter Try.func52, Try.ntmps52
      go_wp2_with fail
      go_ret
      exact ⟨ret_bool H.out.symm, rfl⟩
    · have H := Lib.hid (node_false (n := n) (v := v) (fun h => h1 h.2))
      go_enter Try.func52, Try.ntmps52
      go_wp2_with fail
      go_ret
      exact ⟨ret_bool H.out.symm, rfl⟩
  · have H := Lib.hid (node_false (n := n) (v := v) (fun h => h0 h.1))
    go_enter Try.func52, Try.ntmps52
    go_wp2_with fail
    go_ret
    exact ⟨ret_bool H.out.symm, rfl⟩
theorem node_yes {n v : Int} (h0 : 0 ≤ v) (h1 : v < n) (w : World) : Calls Try.prog 52 #[.int .i64 n, .int .i64 v] w fun e w' => e = .returned (.bool true) ∧ w = w' := by
  have h := node_any n v w
  rw [node_true h0 h1] at h
  exact h
theorem node_no {n v : Int} (h : ¬ (0 ≤ v ∧ v < n)) (w : World) : Calls Try.prog 52 #[.int .i64 n, .int .i64 v] w fun e w' => e = .returned (.bool false) ∧ w = w' := by
  have k := node_any n v w
  rw [node_false h] at k
  exact k
def RValidIs (n : Int) (A : List Arc) (s t : Int) (w : World) (e : Ending) (w' : World) : Prop := e = .returned (.bool (validB n A s t)) ∧ w = w'
theorem RValidIs.no {n : Int} {A : List Arc} {s t : Int} {w : World} (h : ¬ Valid n A s t) : RValidIs n A s t w (.returned (.bool false)) w := ⟨by rw [validB_false h], rfl⟩

set_option maxHeartbeats 1000000 in
theorem rvalid_any (n s t : Int) (C : Option Addr) (cc : Nat) (A : List Arc) (w : World) {B : Nat} (hC : ArcsAt w B C A) (hlen : A.length ≤ 9223372036854775807) :
    Calls Try.prog 41 #[.int .i64 n, .slice C A.length cc, .int .i64 s, .int .i64 t] w (RValidIs n A s t w) := by
  by_cases h1 : 1 ≤ n
  case neg =>
    have hv : Hid (¬ Valid n A s t) := fun h => h1 h.1
    go_enter Try.func41, Try.ntmps41
    go_wp2_with fail
    go_ret
    exact .no hv.out
  by_cases h2 : n ≤ 256
  case neg =>
    have hv : Hid (¬ Valid n A s t) := fun h => h2 h.2.1
    go_enter Try.func41, Try.ntmps41
    go_wp2_with fail
    go_ret
    exact .no hv.out
  by_cases h3 : A.length ≤ 4096
  case neg =>
    have hv : Hid (¬ Valid n A s t) := fun h => h3 h.2.2.1
    have h3' : (4096 : Int) < (A.length : Int) := by omega
    go_enter Try.func41, Try.ntmps41
    go_wp2_with fail
    go_ret
    exact .no hv.out
  clear hlen
  by_cases h4 : s = t
  · have hv : Hid (¬ Valid n A s t) := fun h => h.2.2.2.2.2.2.2.2 h4
    subst h4
    go_enter Try.func41, Try.ntmps41
    go_wp2_with fail
    go_ret
    exact .no hv.out
  have h4' : (s == t) = false := by simp; exact h4
  by_cases h5 : 0 ≤ s ∧ s < n
  case neg =>
    have hv : Hid (¬ Valid n A s t) := fun h => h5 ⟨h.2.2.2.2.1, h.2.2.2.2.2.1⟩
    have k := Lib.hid (node_no h5 w)
    clear h5
    go_enter Try.func41, Try.ntmps41
    go_wp2_with (go_at_call 52; refine k.out.mono ?_; rintro e1 w1 ⟨rfl, rfl⟩)
    go_ret
    exact .no hv.out
  by_cases h6 : 0 ≤ t ∧ t < n
  case neg =>
    have hv : Hid (¬ Valid n A s t) := fun h => h6 ⟨h.2.2.2.2.2.2.1, h.2.2.2.2.2.2.2.1⟩
    have k := Lib.hid (And.intro (node_yes h5.1 h5.2 w) (node_no h6 w))
    clear h6 h5
    go_enter Try.func41, Try.ntmps41
    go_wp2_with (go_at_call 52; (first | ((with_reducible refine k.out.1.mono ?_); rintro e1 w1 ⟨rfl, rfl⟩) | ((with_reducible refine k.out.2.mono ?_); rintro e1 w1 ⟨rfl, rfl⟩) | fail))
    go_ret
    exact .no hv.out
  have k := Lib.hid (And.intro (node_yes h5.1 h5.2 w) (node_yes h6.1 h6.2 w))
  have H56 := Lib.hid (And.intro h5 (And.intro h6 h4))
  clear h5 h6 h4
  go_enter Try.func41, Try.ntmps41
  go_wp2_with (go_at_call 52; (first | ((with_reducible refine k.out.1.mono ?_); rintro e1 w1 ⟨rfl, rfl⟩) | ((with_reducible refine k.out.2.mono ?_); rintro e1 w1 ⟨rfl, rfl⟩) | fail))
  go_loop [9] (fun i => ∃ k : Nat, k ≤ A.length ∧ i = .int .i64 k ∧ Hid (∀ (j : Nat) a, j < k → A[j]? = some a → good n a)) (fun i => A.length - (intOf i).toNat)
  case atStart => exact ⟨0, Nat.zero_le _, rfl, fun j a hj => absurd hj (Nat.not_lt_zero _)⟩
  case round =>
    obtain ⟨k, hk, rfl, hg⟩ := hrel
    by_cases hlt : k < A.length
    · obtain ⟨b, off, x, y, z, rfl, hbb, ha, c0, c1, c2⟩ := hC.at_ hlt
      have no : ¬ good n (x, y, z) → Hid (¬ Valid n A s t) := fun hgd => fun h => hgd (h.2.2.2.1 k _ ha.out)
      by_cases g1 : 0 ≤ x ∧ x < n
      case neg =>
        have hv := no (fun g => g1 ⟨g.1, g.2.1⟩)
        have q := Lib.hid (node_no g1 w)
        clear no g1 hg
        go_wp2_with (go_at_call 52; refine q.out.mono ?_; rintro e1 w1 ⟨rfl, rfl⟩)
        go_ret
        exact .no hv.out
      by_cases g2 : 0 ≤ y ∧ y < n
      case neg =>
        have hv := no (fun g => g2 ⟨g.2.2.1, g.2.2.2.1⟩)
        have q := Lib.hid (And.intro (node_yes g1.1 g1.2 w) (node_no g2 w))
        clear no g1 g2 hg
        go_wp2_with (go_at_call 52; (first | ((with_reducible refine q.out.1.mono ?_); rintro e1 w1 ⟨rfl, rfl⟩) | ((with_reducible refine q.out.2.mono ?_); rintro e1 w1 ⟨rfl, rfl⟩) | fail))
        go_ret
        exact .no hv.out
      have q := Lib.hid (And.intro (node_yes g1.1 g1.2 w) (node_yes g2.1 g2.2 w))
      by_cases g3 : 0 ≤ z
      case neg =>
        have hv := no (fun g => g3 g.2.2.2.2.1)
        clear no g1 g2 hg
        go_wp2_with (go_at_call 52; (first | ((with_reducible refine q.out.1.mono ?_); rintro e1 w1 ⟨rfl, rfl⟩) | ((with_reducible refine q.out.2.mono ?_); rintro e1 w1 ⟨rfl, rfl⟩) | fail))
        go_ret
        exact .no hv.out
      by_cases g4 : z ≤ 1125899906842624
      case neg =>
        have hv := no (fun g => g4 g.2.2.2.2.2)
        clear no g1 g2 hg
        go_wp2_with (go_at_call 52; (first | ((with_reducible refine q.out.1.mono ?_); rintro e1 w1 ⟨rfl, rfl⟩) | ((with_reducible refine q.out.2.mono ?_); rintro e1 w1 ⟨rfl, rfl⟩) | fail))
        go_ret
        exact .no hv.out
      have hg' : Hid (∀ (j : Nat) a, j < k + 1 → A[j]? = some a → good n a) := by
        intro j a hj hja
        by_cases g : j < k
        · exact hg.out j a g hja
        · obtain rfl : j = k := by omega
          rw [ha.out] at hja
          obtain rfl := Option.some.inj hja
          exact ⟨g1.1, g1.2, g2.1, g2.2, g3, g4⟩
      clear no g1 g2 hg
      go_wp2_with (go_at_call 52; (first | ((with_reducible refine q.out.1.mono ?_); rintro e1 w1 ⟨rfl, rfl⟩) | ((with_reducible refine q.out.2.mono ?_); rintro e1 w1 ⟨rfl, rfl⟩) | fail))
      go_round
      case rel => exact ⟨k + 1, by omega, by go_num, hg'⟩
      case measure => simp [intOf]; omega
    · have hv : Hid (Valid n A s t) := ⟨h1, h2, h3, fun j a hj => hg.out j a (by have := (List.getElem?_eq_some_iff.1 hj).1; omega) hj, H56.out.1.1, H56.out.1.2, H56.out.2.1.1, H56.out.2.1.2, H56.out.2.2⟩
      clear hg
      go_wp2_with fail
      go_ret
      exact ⟨by rw [validB_true hv.out]; rfl, rfl⟩
end Go.Proofs.Ytphebdmdbnpokaa.FL

