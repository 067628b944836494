/- A contract of the older kind ('returns this value, and at most makes new blocks') as one of the engine's. -/
import Derived.Test.YtkaffcdjhbaifaaZ1
import Derived.Test.YtkaffcdjhbaifaaYBase
namespace Go.Proofs.Ytkaffcdjhbaifaa
open Go.Eng Go.RowKit

theorem callOk_of_bel {P : Program} {f : Nat} {args : List AV} {vs : Array Value} {y : Value} (hargs : ∀ (I : Nat → Nat → Prop) (w : World) (vals : List Value), dreps I w args vals → vals = vs.toList) (h : ∀ w, Calls P f vs w fun e w' => e = .returned y ∧ Bel w w') : CallOk P f args (fun r => r = .v y) := by
  intro I w vals hI hd
  have e := hargs I w vals.toList hd
  obtain rfl : vals = vs := by cases vals; cases vs; simpa using e
  refine (h w).mono ?_
  rintro e w' ⟨rfl, hb⟩
  refine ⟨y, .v y, ⟨I, fun _ => none, fun _ => none, fun _ => False, fun _ => 0⟩, rfl, rfl, by simp [rep], ⟨⟨hb.os, hb.tape, hb.output, Bel.size hb, fun k hk _ => hb.block k hk⟩, fun _ _ h => h, fun _ _ h => .inl h, fun b o hI' => ?_, fun _ _ h => h.elim, fun _ _ _ h => h.elim⟩⟩
  rw [Bel.cell hb b o (cell_lt (hI b o hI'))]
  exact hI b o hI'
theorem args_nums {I : Nat → Nat → Prop} {w : World} : ∀ {xs : List Int} {vals : List Value}, dreps I w (xs.map fun n => AV.v (.int .i64 n)) vals → vals = xs.map (Value.int .i64)
  | [], vals, h => by simpa [dreps] using h
  | x :: xs, vals, h => by
    simp only [List.map_cons, dreps] at h
    obtain ⟨y, zs, rfl, hy, hz⟩ := h
    simp only [drep] at hy
    rw [hy, args_nums hz]
    rfl
theorem args_pier {I : Nat → Nat → Prop} {w : World} {a b : Int} {xs : List Int} {vals : List Value} (h : dreps I w (.agg [.v (.int .i64 a), .v (.int .i64 b)] :: xs.map fun n => AV.v (.int .i64 n)) vals) : vals = .agg #[.int .i64 a, .int .i64 b] :: xs.map (Value.int .i64) := by
  simp only [dreps] at h
  obtain ⟨y, zs, rfl, hy, hz⟩ := h
  have := args_nums hz
  subst this
  simp only [drep, dreps] at hy
  obtain ⟨A, rfl, y1, z1, e1, rfl, y2, z2, rfl, rfl, rfl⟩ := hy
  have : A = #[.int .i64 a, .int .i64 b] := by cases A; simp_all
  rw [this]
end Go.Proofs.Ytkaffcdjhbaifaa
