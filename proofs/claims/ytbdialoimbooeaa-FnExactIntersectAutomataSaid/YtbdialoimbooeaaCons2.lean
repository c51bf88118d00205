/- Constraints of the program: whether the numbers are those of the kind. -/
import Derived.Test.YtbdialoimbooeaaCons
import Derived.Test.YtbdialoimbooeaaStarts
namespace Go.Proofs.Ytbdialoimbooeaa
open Go.RowKit

def argsB (args : List Int) (m lo hi : Int) : Bool := ((args.length : Int) == m) && allR args lo hi
/-- The numbers of a constraint are those of its kind. -/
def fitB (kk : Int) (vars args : List Int) (b : Int) (rows : List (List Int)) : Bool :=
  if kk = 1 then argsB args vars.length (-9) 9 && (inR b (-999) 999 && ((rows.length : Int) == 0))
  else if kk = 2 then ((vars.length : Int) == 2) && (argsB args 1 (-9) 9 && ((b == 0) && ((rows.length : Int) == 0)))
  else if kk = 3 ∨ kk = 9 then ((args.length : Int) == 0) && ((b == 0) && ((rows.length : Int) == 0))
  else if kk = 4 then ((vars.length : Int) == 2) && (inR args.length 1 6 && (allR args 0 5 && ((b == 0) && ((rows.length : Int) == 0))))
  else if kk = 5 then ((args.length : Int) == 0) && ((b == 0) && vRows rows vars.length 0 5)
  else if kk = 6 then argsB args 1 0 5 && (inR b 0 4 && ((rows.length : Int) == 0))
  else if kk = 7 then argsB args (2 * vars.length) 0 9 && (inR b 0 9 && ((rows.length : Int) == 0))
  else if kk = 8 then vRows rows 6 (-1) (rows.length - 1) && (dst args && (allR args 0 (rows.length - 1) && (b == 0)))
  else false
end Go.Proofs.Ytbdialoimbooeaa
