/- The bytes that a law is called with, opened. -/
import Derived.Test.YtkadjimnamcjbaaYADw
import Derived.Test.YtkadjimnamcjbaaYEO
namespace Go.Proofs.Ytkadjimnamcjbaa
open Go.ChangeShapes Go.WideShapes Go.ChangeAt Go.RowKit Go.Deep Go.Eng
set_option maxRecDepth 100000
attribute [local irreducible] QV TV WL HW W CallOk Weak

section
variable {H : Type} {enc : TypeId × Value → H} {W : World}
theorem ewf_u8 {x : Int} (h : (Lit.int .u8 x).wf = true) : isU8 x := by
  simp [Lit.wf, IntKind.min, IntKind.max, IntKind.bits, IntKind.signed] at h
  unfold isU8
  omega
theorem opens_U8 : Opens enc Try.prog W 5 1 (fun r => ∃ x : Int, r = u8r x ∧ isU8 x) := fun fuel cs x h _ => by
  obtain ⟨n, rfl, _, hw⟩ := DataW.trod_int Try.underlying5 h
  exact ⟨_, ⟨n, rfl, ewf_u8 hw⟩, by simp [dreps, drep], rfl⟩
theorem opens_Code : Opens enc Try.prog W 22 1 (RowsR 1 u8r isU8) :=
  opens_slice Try.underlying22 (by kernel_rfl) (by decide) opens_U8
theorem open_code {r : Reach} {b0 : Nat} {v : Value} {d : DataW H} {p : List MemPlace} (hv : Value.okWide Try.prog W r b0 22 v) (h : DataW.Trod enc Try.prog W 0 (fun _ => true) true 22 v d p) (hlt : ∀ x ∈ p, x.block < W.heap.size) :
    ∃ l : List Int, (∀ x ∈ l, isU8 x) ∧ l.length ≤ 9223372036854775807 ∧ drep (Old W) W (slU l) v := by
  obtain ⟨a0, len, cap, rfl⟩ := okWide_slice Try.underlying22 hv
  obtain ⟨x, ⟨l, e, h1, h2⟩, h3⟩ := open_cell opens_Code rfl h hlt
  cases e
  exact ⟨l, h1, h2, h3⟩
end
end Go.Proofs.Ytkadjimnamcjbaa
