/- Records, each with what its lists hold. -/
import Derived.Test.YtkjcjlcimgcfcaaFault2
namespace Go.Cab
set_option linter.unusedSimpArgs false
set_option linter.unusedVariables false
set_option linter.unusedSectionVars false
open Go Go.Proofs
variable [Milieu]
/-- how much there is in a record's lists -/
def RecC.size (c : RecC) : Nat := 1 + c.ws.length + c.ds.length + c.es.length + c.ps.length + c.ys.length + c.zs.length
def RecC.fit (c : RecC) : Prop := c.size ≤ 1125899906842624
/-- records, each with what its lists hold -/
def RecsR (Γ : List Asn) (xs : List Record) (cs : List RecC) : Prop := xs.length = cs.length ∧ ∀ (i : Nat) (x : Record) (c : RecC), xs[i]? = some x → cs[i]? = some c → RecR Γ x c ∧ c.fit
theorem RecsR.suf {Γ0 Γ : List Asn} [Suf Γ0 Γ] {xs : List Record} {cs : List RecC} (h : RecsR Γ0 xs cs) : RecsR Γ xs cs := ⟨h.1, fun i x c hx hc => ⟨(h.2 i x c hx hc).1.suf, (h.2 i x c hx hc).2⟩⟩
end Go.Cab
