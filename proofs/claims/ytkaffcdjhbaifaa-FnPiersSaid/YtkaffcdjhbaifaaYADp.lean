/- Drawn piers: the older contract as one of the engine's. -/
import Derived.Test.YtkaffcdjhbaifaaYADw
import Derived.Test.YtkaffcdjhbaifaaYDrawPier
namespace Go.Proofs.Ytkaffcdjhbaifaa
open Go.Eng Go.RowKit

theorem bytes_of {I : Nat → Nat → Prop} {w : World} {l : List Int} {v : Value} (hI : ∀ b o, I b o → (w.cell? ⟨b, o, none⟩).isSome = true) (hl : ∀ x ∈ l, isU8 x) (h : drep I w (slU l) v) : ∃ A c, v = .slice A l.length c ∧ BytesAt w A l.length := by
  simp only [drep] at h
  obtain ⟨A, c, e, hr, _⟩ := h
  refine ⟨A, c, by simpa using e, fun hn => ?_⟩
  rcases hr with hr | ⟨b, o, rfl, hr⟩
  · have : l = [] := by simpa using hr
    rw [this] at hn; simp at hn
  · have cell : ∀ j, j < l.length → ∃ x, l[j]? = some x ∧ w.cell? ⟨b, o + j, none⟩ = some (.int .u8 x) ∧ I b (o + j) := fun j hj => by
      obtain ⟨x, hx⟩ : ∃ x, l[j]? = some x := ⟨_, List.getElem?_eq_getElem hj⟩
      have := (drows_get hr (i := j) (r := u8r x) (by simp [hx])).2
      simp only [dcells, drep, Nat.mul_one] at this
      obtain ⟨⟨z, h1, h2, h3⟩, _⟩ := this
      subst h3
      exact ⟨x, hx, h1, h2⟩
    obtain ⟨x0, _, _, h0⟩ := cell 0 hn
    refine ⟨b, o, rfl, cell_lt (hI b _ h0), fun j hj => ?_⟩
    obtain ⟨x, hx, h1, _⟩ := cell j hj
    have := hl x (List.mem_of_getElem? hx)
    exact ⟨x, h1, this.1, this.2⟩
theorem drawPier_ok (l : List Int) (hl : Bts l) : CallOk Try.prog 5 [slU l] (fun r => ∃ a b h d n : Int, (1 ≤ a ∧ a ≤ 12) ∧ (1 ≤ b ∧ b ≤ 25) ∧ (0 ≤ h ∧ h < 900) ∧ (0 ≤ d ∧ d < 400) ∧ (1 ≤ n ∧ n ≤ 3) ∧ r = .tup [.agg [vi a, vi b], vi h, vi d, vi n]) := by
  intro I w vals hI hd
  simp only [dreps] at hd
  obtain ⟨y, zs, e, hy, rfl⟩ := hd
  obtain ⟨A, c, rfl, hb⟩ := bytes_of hI hl.u hy
  obtain rfl : vals = #[.slice A l.length c] := by cases vals; simp_all
  refine (DrawPier_calls A l.length c w hb hl.n).mono ?_
  rintro e w' ⟨a, b, h, d, k, ⟨r1, r2, r3, r4, r5, r6, r7, r8, r9, r10⟩, rfl, hbl⟩
  refine ⟨_, .tup [.agg [vi a, vi b], vi h, vi d, vi k], ⟨I, fun _ => none, fun _ => none, fun _ => False, fun _ => 0⟩, rfl, ⟨a, b, h, d, k, ⟨r1, r2⟩, ⟨r3, r4⟩, ⟨r5, r6⟩, ⟨r7, r8⟩, ⟨r9, r10⟩, rfl⟩, by simp [rep, reps], ⟨⟨hbl.os, hbl.tape, hbl.output, Bel.size hbl, fun k hk _ => hbl.block k hk⟩, fun _ _ h => h, fun _ _ h => .inl h, fun b o hI' => ?_, fun _ _ h => h.elim, fun _ _ _ h => h.elim⟩⟩
  rw [Bel.cell hbl b o (cell_lt (hI b o hI'))]
  exact hI b o hI'
end Go.Proofs.Ytkaffcdjhbaifaa
