/- Marks: rows of numbers in order, written over rows that were there. No program in sight. -/
import Derived.Test.YtikbndfbjgdldaaER
namespace Go.Eng
open Go
section
variable {α : Type} {row : α → List AV} {mk : Int → Nat → α} {k : Int} {l : List α} {more : List (List AV)} {i e : Nat}
def mks (mk : Int → Nat → α) (k : Int) (n : Nat) : List α := (List.range n).map (mk k)
theorem mks_len {n : Nat} : (mks mk k n).length = n := by simp [mks]
theorem mks_at {n : Nat} (h : i < n) : (mks mk k n)[i]? = some (mk k i) := by simp [mks, h]
def mkR (row : α → List AV) (mk : Int → Nat → α) (k : Int) (l : List α) (more : List (List AV)) (i : Nat) : List (List AV) := (mks mk k i).map row ++ ((l.drop i).map row ++ more)
theorem len_map {β : Type} {f : α → β} {l : List α} : l.length = (l.map f).length := (List.length_map _).symm
theorem len_mks {β : Type} {f : α → β} {n : Nat} : n = ((mks mk k n).map f).length := by rw [List.length_map, mks_len]
theorem mkR_drop {p : α} (h : l[i]? = some p) : l.drop i = p :: l.drop (i + 1) := by
  obtain ⟨h1, h2⟩ := List.getElem?_eq_some_iff.1 h
  rw [List.drop_eq_getElem_cons h1, h2]
theorem mkR_at {p : α} (h : l[i]? = some p) : (mkR row mk k l more i)[i]? = some (row p) := by
  unfold mkR
  rw [List.getElem?_append_right (by simp [mks_len]), List.length_map, mks_len, Nat.sub_self, mkR_drop h]
  rfl
theorem mkR_set {p : α} (h : l[i]? = some p) : (mkR row mk k l more i).set i (row (mk k i)) = mkR row mk k l more (i + 1) := by
  unfold mkR
  rw [List.set_append_right _ _ (by simp [mks_len]), List.length_map, mks_len, Nat.sub_self, mkR_drop h]
  simp [mks, List.range_succ]
theorem mkR_len (hf : ∀ a, (row a).length = e) (hm : MoreOk e more) : ∀ r ∈ mkR row mk k l more i, r.length = e := by
  intro r hr
  unfold mkR at hr
  rcases List.mem_append.1 hr with h | h
  · obtain ⟨p, _, rfl⟩ := List.mem_map.1 h; exact hf p
  · rcases List.mem_append.1 h with h | h
    · obtain ⟨p, _, rfl⟩ := List.mem_map.1 h; exact hf p
    · exact (hm r h).1
theorem mkR_plain (hf : ∀ a, ∀ x ∈ row a, plain x = true) (hm : MoreOk e more) (i : Nat) : ∀ x ∈ (mkR row mk k l more i).flatten, plain x = true := by
  intro x hx
  obtain ⟨r, hr, hx⟩ := List.mem_flatten.1 hx
  unfold mkR at hr
  rcases List.mem_append.1 hr with h | h
  · obtain ⟨p, _, rfl⟩ := List.mem_map.1 h; exact hf p x hx
  · rcases List.mem_append.1 h with h | h
    · obtain ⟨p, _, rfl⟩ := List.mem_map.1 h; exact hf p x hx
    · exact (hm r h).2 x hx
theorem map_plain (hf : ∀ a, ∀ x ∈ row a, plain x = true) (l : List α) : ∀ x ∈ (l.map row).flatten, plain x = true := by
  intro x hx
  obtain ⟨r, hr, hx⟩ := List.mem_flatten.1 hx
  obtain ⟨p, _, rfl⟩ := List.mem_map.1 hr
  exact hf p x hx
theorem map_plainB (hf : ∀ a, (row a).all plain = true) : ∀ x ∈ (l.map row).flatten, plain x = true :=
  map_plain (fun a x hx => List.all_eq_true.1 (hf a) x hx) l
theorem map_lens (hf : ∀ a, (row a).length = e) : ∀ r ∈ l.map row, r.length = e := by
  intro r hr
  obtain ⟨p, _, rfl⟩ := List.mem_map.1 hr
  exact hf p
end
structure RowAt (rows : List (List AV)) (i e : Nat) (r : List AV) : Prop where
  at_ : rows[i]? = some r
  len : ∀ r ∈ rows, r.length = e
theorem RowAt.set {rows : List (List AV)} {i e : Nat} {r r' : List AV} (h : RowAt rows i e r) (h' : r'.length = e) : RowAt (rows.set i r') i e r' :=
  ⟨by rw [List.getElem?_set_self (List.getElem?_eq_some_iff.1 h.at_).1], fun s hs => by
    rcases List.mem_or_eq_of_mem_set hs with hs | rfl
    · exact h.len s hs
    · exact h'⟩
end Go.Eng
