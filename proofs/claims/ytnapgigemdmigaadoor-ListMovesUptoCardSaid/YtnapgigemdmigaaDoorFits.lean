/- Plain: what lies in a memory, and the number that stands there. -/
import Derived.Test.YtnapgigemdmigaaDoorLeNum
namespace Go.Proofs.YtnapgigemdmigaaDoor

def memFits (size : Nat) (at_ n : Int) : Bool := decide (0 ≤ at_ ∧ 0 ≤ n ∧ n ≤ size ∧ at_ ≤ size - n)
def numOk (ys : List Int) : Bool := decide (leNum ys ≤ 4611686018427387904)
/-- the number at p: none where it does not lie in the memory, or is too great -/
def numRd (bs : List Int) (p : Int) : Option Int := if memFits bs.length p 8 && numOk ((bs.drop p.toNat).take 8) then some (leNum ((bs.drop p.toNat).take 8)) else none
def pageOk (x : Int) : Bool := decide (0 ≤ x ∧ x % 64 = 0)
end Go.Proofs.YtnapgigemdmigaaDoor
