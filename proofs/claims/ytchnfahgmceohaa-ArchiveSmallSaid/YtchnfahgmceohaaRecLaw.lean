/- The bytes of a record, of an archive. No program in sight. -/
import Derived.Test.YtchnfahgmceohaaPackLaw
import Derived.Test.YtchnfahgmceohaaSumB
import Derived.Test.YtchnfahgmceohaaSer
namespace Go.Proofs.Ytchnfahgmceohaa
open Go.RowKit
set_option linter.unusedVariables false

def payL (f st : Int) (ds : List Int) : List Int := putL (foldN f) ++ putL st.toNat ++ putL ds.length ++ packL ds
def be4 (n : Int) : List Int := [n / 16777216 % 256, n / 65536 % 256, n / 256 % 256, n % 256]
def recL (f st : Int) (ds : List Int) : List Int := putL (payL f st ds).length ++ payL f st ds ++ be4 (sumB (payL f st ds))
theorem payL_len (f st : Int) (ds : List Int) : 3 ≤ (payL f st ds).length ∧ (payL f st ds).length ≤ 40 + 20 * ds.length := by
  unfold payL packL
  have h1 := putL_len (foldN f)
  have h2 := putL_len st.toNat
  have h3 := putL_len ds.length
  have h4 := packGo_len ds 0 0
  simp only [List.length_append]
  omega
theorem recL_len (f st : Int) (ds : List Int) : 8 ≤ (recL f st ds).length ∧ (recL f st ds).length ≤ 54 + 20 * ds.length := by
  unfold recL
  have h1 := putL_len (payL f st ds).length
  have h2 := payL_len f st ds
  have h3 : (be4 (sumB (payL f st ds))).length = 4 := rfl
  simp only [List.length_append]
  omega
theorem sumB_bd (bs : List Int) : 0 ≤ sumB bs ∧ sumB bs < 4294967296 := sumTo_bd bs _
theorem inP_dep {ds : List Int} (h : ∀ z ∈ ds, -1 ≤ z ∧ z ≤ 4194304) : inP ds := fun z hz => by have := h z hz; omega
end Go.Proofs.Ytchnfahgmceohaa
