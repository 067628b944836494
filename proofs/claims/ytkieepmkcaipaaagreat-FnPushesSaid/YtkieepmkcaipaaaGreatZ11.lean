/- My walking engine, part 11: abstract values of Go, and the rules of a walk over them. No program in sight. -/
import Derived.Test.YtkieepmkcaipaaaGreatZ5
namespace Go.Eng
open Go
section
variable {α : Type} {row : α → List AV} {mk : Int → Nat → α} {k : Int} {l : List α} {more : List (List AV)} {i e : Nat}
def mks (mk : Int → Nat → α) (k : Int) (n : Nat) : List α := (List.range n).map (mk k)
theorem mks_len {n : Nat} : (mks mk k n).length = n := by simp [mks]
theorem len_map {β : Type} {f : α → β} {l : List α} : l.length = (l.map f).length := (List.length_map _).symm
theorem len_mks {β : Type} {f : α → β} {n : Nat} : n = ((mks mk k n).map f).length := by rw [List.length_map, mks_len]
theorem map_plain (hf : ∀ a, ∀ x ∈ row a, plain x = true) (l : List α) : ∀ x ∈ (l.map row).flatten, plain x = true := by
  intro x hx
  obtain ⟨r, hr, hx⟩ := List.mem_flatten.1 hx
  obtain ⟨p, _, rfl⟩ := List.mem_map.1 hr
  exact hf p x hx
theorem map_plainB (hf : ∀ a, (row a).all plain = true) : ∀ x ∈ (l.map row).flatten, plain x = true :=
  map_plain (fun a x hx => List.all_eq_true.1 (hf a) x hx) l
theorem map_lens (hf : ∀ a, (row a).length = e) : ∀ r ∈ l.map row, r.length = e := by
  intro r hr
  obtain ⟨p, _, rfl⟩ := List.mem_map.1 hr
  exact hf p
end
structure RowAt (rows : List (List AV)) (i e : Nat) (r : List AV) : Prop where
  at_ : rows[i]? = some r
  len : ∀ r ∈ rows, r.length = e
theorem RowAt.set {rows : List (List AV)} {i e : Nat} {r r' : List AV} (h : RowAt rows i e r) (h' : r'.length = e) : RowAt (rows.set i r') i e r' :=
  ⟨by rw [List.getElem?_set_self (List.getElem?_eq_some_iff.1 h.at_).1], fun s hs => by
    rcases List.mem_or_eq_of_mem_set hs with hs | rfl
    · exact h.len s hs
    · exact h'⟩
end Go.Eng
