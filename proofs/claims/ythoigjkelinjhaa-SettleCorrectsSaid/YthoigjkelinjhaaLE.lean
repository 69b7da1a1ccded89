/- Plain words of a ledger: entries, postings, accounts. -/
set_option linter.unusedSimpArgs false
set_option linter.unusedVariables false
namespace Go.Proofs.Ythoigjkelinjhaa.LD
set_option maxRecDepth 100000

/-- An entry. -/
structure Et where
  day : Int
  known : Int
  owner : Int
  place : Int
  litres : Int
  why : Int
  ref : Int
deriving DecidableEq, Inhabited
namespace LG
def In64 (x : Int) : Prop := -9223372036854775808 ≤ x ∧ x ≤ 9223372036854775807
def inB (x : Int) : Bool := decide (-9223372036854775808 ≤ x) && decide (x ≤ 9223372036854775807)
/-- The exact sum, and whether it is an int. -/
def sumX (l : List Int) : Int × Bool := if inB l.sum then (l.sum, true) else (0, false)
def lits (l : List Et) : List Int := l.map (·.litres)
def wit (n a b : Int) : Bool := decide (a ≤ n) && decide (n ≤ b)
def okE (e : Et) : Bool := wit e.day 0 699050 && wit e.known 0 16777216 && wit e.owner (-1) 15 && wit e.place 0 63 && wit e.litres (-1125899906842624) 1125899906842624 && wit e.why 0 3 && decide (0 ≤ e.ref)
/-- Of the day and the hour of another entry. -/
def sameG (a e : Et) : Bool := decide (e.day = a.day) && decide (e.known = a.known)
def zeroX (l : List Et) : Bool := (sumX (lits l)).2 && decide ((sumX (lits l)).1 = 0)
def postB (e : List Et) : Bool := !e.isEmpty && e.all (fun x => okE x && sameG (e.headD default) x) && zeroX e
def absI (n : Int) : Int := if n < 0 then -n else n
def absS (l : List Et) : Int := (l.map (fun e => absI e.litres)).sum
def fullB (l e : List Et) : Bool := decide (4611686018427387904 < absS l + absS e)
def lateB (l e : List Et) : Bool := !l.isEmpty && decide ((e.headD default).known < (l.getLastD default).known)
/-- What is posted, and the error. -/
def postR (l e : List Et) : List Et × Int :=
  if !postB e then ([], 1) else if lateB l e then ([], 15) else if fullB l e then ([], 8) else (l ++ e, 0)
def accB (owner place day known : Int) (e : Et) : Bool := decide (e.day ≤ day) && decide (e.known ≤ known) && (decide (owner = -1) || decide (e.owner = owner)) && (decide (place = -1) || decide (e.place = place))
def account (l : List Et) (owner place day known : Int) : Int := (sumX (lits (l.filter (accB owner place day known)))).1
def balanced (l : List Et) (known : Int) : Bool := l.all fun e => !decide (e.known ≤ known) || zeroX (l.filter (sameG e))
def lineB (owner from1 until1 known : Int) (e : Et) : Bool := decide (e.owner = owner) && wit e.day from1 until1 && decide (e.known ≤ known)
def ltDay (x y : Et) : Bool := decide (x.day < y.day)
end LG
end Go.Proofs.Ythoigjkelinjhaa.LD
