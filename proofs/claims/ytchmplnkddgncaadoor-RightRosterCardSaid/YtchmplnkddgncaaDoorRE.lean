/- Plain words of rights: deals, seasons, the roster. -/
import Derived.Test.YtchmplnkddgncaaDoorST
import Derived.Test.YtchmplnkddgncaaDoorMath
import Derived.Test.YtchmplnkddgncaaDoorRM
set_option linter.unusedSimpArgs false
set_option linter.unusedVariables false
namespace Go.Proofs.YtchmplnkddgncaaDoor
open CM
deriving instance DecidableEq for CM.Rt
deriving instance Inhabited for CM.Rt
/-- A deal. -/
structure Dl where
  kind : Int
  known : Int
  right : Rt
  from1 : Int
  until1 : Int
deriving DecidableEq, Inhabited
namespace RG
def wit (n a b : Int) : Bool := decide (a ≤ n) && decide (n ≤ b)
/-- Whether a month has a day in leap years. -/
def exB (m d : Int) : Bool := decide (1 ≤ m ∧ m ≤ 12 ∧ 1 ≤ d ∧ d ≤ DM.len 2000 m)
def mdB (n : Int) : Bool := exB (n.tdiv 100) (n.tmod 100)
def inX (x f u : Int) : Bool := if f ≤ u then decide (f ≤ x) && decide (x ≤ u) else decide (f ≤ x) || decide (x ≤ u)
def inB (m d f u : Int) : Bool := mdB f && mdB u && exB m d && inX (100 * m + d) f u
/-- The date of a day. -/
noncomputable def dateOf (n : Int) : Int × Int × Int :=
  open Classical in if h : ∃ p : Int × Int × Int, DM.vld p.1 p.2.1 p.2.2 ∧ DM.num p.1 p.2.1 p.2.2 = n then Classical.choose h else (0, 0, 0)
theorem dateOf_eq {n y m d : Int} (h1 : DM.vld y m d) (h2 : DM.num y m d = n) : dateOf n = (y, m, d) := by
  have h : ∃ p : Int × Int × Int, DM.vld p.1 p.2.1 p.2.2 ∧ DM.num p.1 p.2.1 p.2.2 = n := ⟨(y, m, d), h1, h2⟩
  unfold dateOf
  rw [dif_pos h]
  obtain ⟨g1, g2⟩ := Classical.choose_spec h
  obtain ⟨e1, e2, e3⟩ := DM.num_inj g1 h1 (g2.trans h2.symm)
  exact Prod.ext e1 (Prod.ext e2 e3)
noncomputable def monOf (n : Int) : Int := (dateOf n).2.1
noncomputable def dayOf (n : Int) : Int := (dateOf n).2.2
/-- Right. -/
def rightB (no np : Nat) (r : Rt) : Bool :=
  wit r.id 0 2147483647 && wit r.date 0 1125899906842624 && wit r.rate 0 1125899906842624 && wit r.owner 0 (no - 1) && wit r.place 0 (np - 1) && wit r.back 0 1000 &&
  (wit r.backTo 0 (np - 1) || (decide (r.backTo = -1) && decide (r.back = 0))) && mdB r.from1 && mdB r.until1
/-- Season. -/
noncomputable def seasonB (r : Rt) (day : Int) : Bool := wit day 0 699050 && inB (monOf day) (dayOf day) r.from1 r.until1
/-- Senior to. -/
def ltR (x y : Rt) : Bool := decide (x.date < y.date) || (decide (x.date = y.date) && decide (x.id < y.id))
theorem swoR : Go.Sort.SWO ltR := ⟨fun x => by simp [ltR], fun x y z a b => by simp [ltR] at *; omega, fun x y z a b => by simp [ltR] at *; omega⟩
def orderR (l : List Rt) : List Rt := ST.insSort ltR l
/-- A known deal that counts for a day, apart from earlier grants. -/
def appB (no np : Nat) (day : Int) (d : Dl) : Bool :=
  if d.kind = 0 then rightB no np d.right
  else if d.kind = 1 then wit d.right.owner 0 (no - 1) && (decide (d.from1 ≤ day) && decide (day ≤ d.until1))
  else if d.kind = 2 then wit d.right.place 0 (np - 1) && (decide (d.from1 ≤ day) && decide (day ≤ d.until1))
  else if d.kind = 3 then decide (d.from1 ≤ day)
  else false
def pick (b : Option Dl) (d : Dl) : Option Dl := match b with
  | none => some d
  | some x => if x.known ≤ d.known then some d else some x
/-- The last deal of a kind about an Id. -/
def lastOf (k i : Int) (K : List Dl) : Option Dl := (K.filter (fun d => decide (d.kind = k) && decide (d.right.id = i))).foldl pick none
/-- The first grants of each Id. -/
def grantsOf (K : List Dl) : List Rt := K.foldl (fun g d => if d.kind = 0 ∧ d.right.id ∉ g.map (·.id) then g ++ [d.right] else g) []
def changed (K : List Dl) (r : Rt) : Rt :=
  { r with owner := match lastOf 1 r.id K with | none => r.owner | some d => d.right.owner, place := match lastOf 2 r.id K with | none => r.place | some d => d.right.place }
def endedB (K : List Dl) (i : Int) : Bool := (lastOf 3 i K).isSome
def counted (no np : Nat) (day known : Int) (l : List Dl) : List Dl := l.filter (fun d => decide (d.known ≤ known) && appB no np day d)
noncomputable def rowsR (day : Int) (K : List Dl) : List Rt := ((grantsOf K).filter (fun r => seasonB r day && !endedB K r.id)).map (changed K)
noncomputable def rosterR (no np : Nat) (day known : Int) (l : List Dl) : List Rt := orderR (rowsR day (counted no np day known l))
end RG
end Go.Proofs.YtchmplnkddgncaaDoor
