/- The arguments of the laws, opened: points, stones, joints, arches. -/
import Derived.Test.YtkieepmkcaipaaaGreatYEO
import Derived.Test.YtkieepmkcaipaaaGreatYMPt
namespace Go.Proofs.YtkieepmkcaipaaaGreat
open Go.ChangeShapes Go.WideShapes Go.ChangeAt Go.RowKit Go.Deep Go.Eng

section
variable {H : Type} {enc : TypeId × Value → H} {W : World}
theorem Opens.mono {P : Program} {t k : Nat} {R R' : List AV → Prop} (h : Opens enc P W t k R) (hR : ∀ xs, R xs → R' xs) : Opens enc P W t k R' := fun fuel cs x h1 h2 =>
  let ⟨xs, k1, k2, k3⟩ := h fuel cs x h1 h2
  ⟨xs, hR xs k1, k2, k3⟩
def Pt.in64 (p : Pt) : Prop := isI64 p.x ∧ isI64 p.y
theorem opens_Point : Opens enc Tryz.prog W 152 2 (fun r => ∃ p : Pt, r = p.row ∧ p.in64) :=
  (opens_struct (Rs := [(1, IntCell), (1, IntCell)]) Tryz.underlying152 (by kernel_rfl) rfl
    (fun i f kR h1 h2 => match i, h1, h2 with
      | 0, h1, h2 => by cases h1; cases h2; exact ⟨by kernel_rfl, rfl, opens_int Tryz.underlying3⟩
      | 1, h1, h2 => by cases h1; cases h2; exact ⟨by kernel_rfl, rfl, opens_int Tryz.underlying3⟩
      | i + 2, h1, h2 => by simp at h2) rfl).mono fun xs h => by
    obtain ⟨a, b, rfl, ⟨x, rfl, hx⟩, _, c, d, rfl, ⟨y, rfl, hy⟩, _, rfl⟩ := h
    exact ⟨⟨x, y⟩, rfl, hx, hy⟩
def Jt.in64 (j : Jt) : Prop := j.i.in64 ∧ j.o.in64
theorem opens_Joint : Opens enc Tryz.prog W 154 4 (fun r => ∃ j : Jt, r = j.row ∧ j.in64) :=
  (opens_struct (Rs := [(2, fun r => ∃ p : Pt, r = p.row ∧ p.in64), (2, fun r => ∃ p : Pt, r = p.row ∧ p.in64)]) Tryz.underlying154 (by kernel_rfl) rfl
    (fun i f kR h1 h2 => match i, h1, h2 with
      | 0, h1, h2 => by cases h1; cases h2; exact ⟨by kernel_rfl, rfl, opens_Point⟩
      | 1, h1, h2 => by cases h1; cases h2; exact ⟨by kernel_rfl, rfl, opens_Point⟩
      | i + 2, h1, h2 => by simp at h2) rfl).mono fun xs h => by
    obtain ⟨a, b, rfl, ⟨p, rfl, hp⟩, _, c, d, rfl, ⟨q, rfl, hq⟩, _, rfl⟩ := h
    exact ⟨⟨p, q⟩, rfl, hp, hq⟩
theorem opens_Joints : Opens enc Tryz.prog W 48 1 (RowsR 4 Jt.row Jt.in64) :=
  opens_slice Tryz.underlying48 (by kernel_rfl) (by decide) opens_Joint
def ArchR (xs : List AV) : Prop := ∃ l : List Jt, xs = [slJt l] ∧ (∀ p ∈ l, p.in64) ∧ l.length ≤ 9223372036854775807
theorem opens_Arch : Opens enc Tryz.prog W 50 1 ArchR :=
  (opens_struct (Rs := [(1, RowsR 4 Jt.row Jt.in64)]) Tryz.underlying50 (by kernel_rfl) rfl
    (fun i f kR h1 h2 => match i, h1, h2 with
      | 0, h1, h2 => by cases h1; cases h2; exact ⟨by kernel_rfl, rfl, opens_Joints⟩
      | i + 1, h1, h2 => by simp at h2) rfl).mono fun xs h => by
    obtain ⟨a, b, rfl, ⟨l, rfl, h1, h2⟩, _, rfl⟩ := h
    exact ⟨l, rfl, h1, h2⟩
end
end Go.Proofs.YtkieepmkcaipaaaGreat
