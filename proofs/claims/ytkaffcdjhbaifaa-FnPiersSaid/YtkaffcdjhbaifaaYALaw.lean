/- The laws' own helpers on points and stones. -/
import Derived.Test.YtkaffcdjhbaifaaYASt
namespace Go.Proofs.Ytkaffcdjhbaifaa
open Go.Eng
set_option maxRecDepth 100000
attribute [local irreducible] QV TV WL HW W CallOk Weak

theorem fill_step {α : Type} {f : α → List AV} {l : List α} {k : Nat} {p : α} {z : List AV} (h : l[k]? = some p) : (((l.take k).map f ++ List.replicate (l.length - k) z).set k (f p)) = (l.take (k + 1)).map f ++ List.replicate (l.length - (k + 1)) z := by
  have hk : k < l.length := (List.getElem?_eq_some_iff.1 h).1
  have hlen : ((l.take k).map f).length = k := by simp; omega
  rw [List.set_append_right _ _ (by omega), hlen, Nat.sub_self, List.take_add_one, h]
  rw [show l.length - k = (l.length - (k + 1)) + 1 by omega, List.replicate_succ]
  simp
theorem fill_len {α : Type} {f : α → List AV} {l : List α} {k e : Nat} {z : List AV} (hf : ∀ p, (f p).length = e) (hz : z.length = e) : ∀ r ∈ (l.take k).map f ++ List.replicate (l.length - k) z, r.length = e := by
  intro r hr
  rcases List.mem_append.1 hr with h | h
  · obtain ⟨p, _, rfl⟩ := List.mem_map.1 h; exact hf p
  · rw [List.eq_of_mem_replicate h]; exact hz
theorem map_len {α : Type} {f : α → List AV} {l : List α} {e : Nat} (hf : ∀ p, (f p).length = e) : ∀ r ∈ l.map f, r.length = e := by
  intro r hr
  obtain ⟨p, _, rfl⟩ := List.mem_map.1 hr; exact hf p
theorem flat_toD {α : Type} {f : α → List AV} {l : List α} (hf : ∀ p, ∀ x ∈ f p, toD x = x) : ∀ x ∈ (l.map f).flatten, toD x = x := by
  intro x hx
  obtain ⟨r, hr, hx⟩ := List.mem_flatten.1 hx
  obtain ⟨p, _, rfl⟩ := List.mem_map.1 hr
  exact hf p x hx

end Go.Proofs.Ytkaffcdjhbaifaa
