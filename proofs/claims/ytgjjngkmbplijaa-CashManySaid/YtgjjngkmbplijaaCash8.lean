/- What small contracts pay: helps of the laws of chapter 10. -/
import Derived.Test.YtgjjngkmbplijaaCash7
import Derived.Test.YtgjjngkmbplijaaValueOverW
namespace Go.Proofs.Ytgjjngkmbplijaa
open Go.RowKit
set_option linter.unusedSimpArgs false
set_option linter.unusedVariables false

def usdB : ByteArray := ⟨#[117, 115, 100]⟩
def eurB : ByteArray := ⟨#[101, 117, 114]⟩
theorem usd_name : isName ⟨#[117, 115, 100]⟩ = true := by decide +kernel
theorem eur_name : isName ⟨#[101, 117, 114]⟩ = true := by decide +kernel
theorem ofV_const {a : Int} (F : FixL) (d : Int) (h : Vd a = true) : (Ob.const a).ofV F d = ⟨a, true, 0⟩ := by
  rw [ofV_ok F d (o := .const a) h (by simp [Ob.nodes]) (by simp [Ob.depth])]; rfl
section
variable {F : FixL} {C : ChL} {id : ByteArray} {t : Te} {d k a : Int} {st : CSt}
theorem sk_over (h : Vd a = true) (h2 : (mulS k a).2 = false) : (Te.scale (.const a) t).walk F C id d k st = (6, st) := by
  have e := ofV_const F d h
  rw [sc_o (by rw [e]) (by rw [e]) (by rw [e]; exact h2)]
theorem sk_zero (h : Vd a = true) (h2 : (mulS k a).2 = true) (h3 : (mulS k a).1 = 0) : (Te.scale (.const a) t).walk F C id d k st = (0, st) := by
  have e := ofV_const F d h
  rw [sc_z (by rw [e]) (by rw [e]) (by rw [e]; exact h2) (by rw [e]; exact h3)]
theorem sk_go (h : Vd a = true) (h2 : (mulS k a).2 = true) (h3 : (mulS k a).1 ≠ 0) : (Te.scale (.const a) t).walk F C id d k st = t.walk F C id d (mulS k a).1 st := by
  have e := ofV_const F d h
  rw [sc_g (by rw [e]) (by rw [e]) (by rw [e]; exact h2) (by rw [e]; exact h3), e]
theorem mulS_yes {a b : Int} (h : Vd a = true) (h' : Vd b = true) (h2 : Vd (a * b) = true) : mulS a b = (a * b, true) := by simp only [mulS, h, h', h2, and_self, if_true]
end

end Go.Proofs.Ytgjjngkmbplijaa
