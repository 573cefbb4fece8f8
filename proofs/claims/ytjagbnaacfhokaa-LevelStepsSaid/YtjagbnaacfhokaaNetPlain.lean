/- Nets, in plain Lean: what each function of package net computes. -/
namespace Go.Proofs.Ytjagbnaacfhokaa
set_option linter.unusedVariables false
set_option linter.unusedSimpArgs false

structure GateM where
  kind : Int
  num : Int
  args : List Int
  deriving DecidableEq
structure StoreM where
  fst : Bool
  next : Int
  deriving DecidableEq
structure NetM where
  ins : Int
  gates : List GateM
  regs : List StoreM
  outs : List Int
  deriving DecidableEq

def formM (N : NetM) (g : GateM) : Bool :=
  let most : Int := if g.kind = 2 then N.ins - 1 else if g.kind = 3 then (N.regs.length : Int) - 1 else 0
  let args : Bool := if g.kind = 4 ∨ g.kind = 5 then true else if g.kind = 6 then decide (g.args.length = 1) else decide (g.args.length = 0)
  args && decide (0 ≤ g.num) && decide (g.num ≤ most)
def manyA (g : GateM) : Bool := decide (16 < g.args.length)
def badPlace (n : Nat) (k : Int) : Bool := decide (k < 0) || decide ((n : Int) ≤ k)
def badGK (g : GateM) : Bool := decide (g.kind < 0) || decide (6 < g.kind)
def tooMany (N : NetM) : Bool := decide (3 < N.ins) || decide (200 < N.gates.length) || decide (20 < N.regs.length) || decide (3 < N.outs.length)
def namedM (N : NetM) : List Int := N.outs ++ N.regs.map (·.next) ++ N.gates.flatMap (·.args)
/-- Check: the first error. -/
def checkN (N : NetM) : Int :=
  if tooMany N then 2 else if N.gates.any manyA then 2 else if N.ins < 0 then 3 else if (namedM N).any (badPlace N.gates.length) then 3
  else if N.gates.any badGK then 4 else if N.gates.all (formM N) then 0 else 1
def firstM (N : NetM) : List Int := N.regs.map fun r => if r.fst then 1 else 0
def nextsM (N : NetM) : List Int := N.regs.map (·.next)
end Go.Proofs.Ytjagbnaacfhokaa
