/- Arguments that came in, read as abstract values; from a law's contract to its walk. No program in sight. -/
import Derived.Test.YtkieepmkcaipaaaGreatYRow
import Derived.Test.YtkieepmkcaipaaaGreatZ4
import Derived.Deep.Slices
namespace Go.Proofs.YtkieepmkcaipaaaGreat
open Go.ChangeShapes Go.WideShapes Go.ChangeAt Go.RowKit Go.Deep Go.Eng

def Old (W : World) (b o : Nat) : Prop := b < W.heap.size ∧ (W.cell? ⟨b, o, none⟩).isSome = true

section
variable {H : Type} {enc : TypeId × Value → H} {P : Program} {W : World}

def Opens (enc : TypeId × Value → H) (P : Program) (W : World) (t k : Nat) (R : List AV → Prop) : Prop :=
  ∀ (fuel : Nat) (cs : List Value) (x : DataW H × List MemPlace), DataW.trod enc P W 0 (fun _ => true) true fuel t cs = some x → (∀ y ∈ x.2, y.block < W.heap.size) → ∃ xs, R xs ∧ dreps (Old W) W xs cs ∧ xs.length = k

theorem espot_of_cell {a : Addr} {v : Value} (h : W.cell? a = some v) : a.spot = none := by
  unfold World.cell? at h
  split at h
  · split at h
    · cases h
    · rename_i h'
      simpa using h'
  · cases h
theorem ewf_i64 {x : Int} (h : (Lit.int .i64 x).wf = true) : -9223372036854775808 ≤ x ∧ x ≤ 9223372036854775807 := by
  simp [Lit.wf, IntKind.min, IntKind.bits, IntKind.signed] at h
  omega
def isI64 (n : Int) : Prop := -9223372036854775808 ≤ n ∧ n ≤ 9223372036854775807
def IntCell (xs : List AV) : Prop := ∃ n : Int, xs = [.v (.int .i64 n)] ∧ isI64 n
theorem opens_int {t : Nat} (ht : P.underlying t = some (.int .i64)) : Opens enc P W t 1 IntCell := fun fuel cs x h _ => by
  obtain ⟨n, rfl, _, hw⟩ := DataW.trod_int ht h
  exact ⟨_, ⟨n, rfl, ewf_i64 hw⟩, by simp [dreps, drep], rfl⟩
def CatR : List (Nat × (List AV → Prop)) → List AV → Prop
  | [], xs => xs = []
  | (k, R) :: r, xs => ∃ a b, xs = a ++ b ∧ R a ∧ a.length = k ∧ CatR r b
theorem opens_struct {t k : Nat} {fs : Array Field} {Rs : List (Nat × (List AV → Prop))} (ht : P.underlying t = some (.struct fs)) (hk : P.cellsOf t = k) (hl : Rs.length = fs.size)
    (hf : ∀ (i : Nat) (f : Field) (kR : Nat × (List AV → Prop)), fs[i]? = some f → Rs[i]? = some kR → P.cellsOf f.type = kR.1 ∧ f.offset = ((Rs.take i).map (·.1)).sum ∧ Opens enc P W f.type kR.1 kR.2) (hs : (Rs.map (·.1)).sum = k) : Opens enc P W t k (CatR Rs) := fun fuel cs x h hlt => by
  obtain ⟨ys, n, _, rfl, hcl, hyl, hall⟩ := DataW.trod_struct ht h
  rw [hk] at hcl
  have key : ∀ (R : List (Nat × (List AV → Prop))) (i : Nat), R = Rs.drop i → ∃ xs, CatR R xs ∧ dreps (Old W) W xs (cs.drop ((Rs.take i).map (·.1)).sum) ∧ xs.length = (R.map (·.1)).sum := by
    intro R
    induction R with
    | nil =>
      intro i hi
      have : Rs.length ≤ i := by
        have := congrArg List.length hi
        simp at this; omega
      refine ⟨[], rfl, ?_, rfl⟩
      rw [List.take_of_length_le this, hs, List.drop_of_length_le (by omega)]
      simp [dreps]
    | cons kR R ih =>
      intro i hi
      have hil : i < Rs.length := by
        have := congrArg List.length hi
        simp at this; omega
      have hRi : Rs[i]? = some kR := by
        have := congrArg (·[0]?) hi
        simp at this
        exact this.symm
      have hR : R = Rs.drop (i + 1) := by
        have := congrArg List.tail hi
        simpa using this
      obtain ⟨b, hb1, hb2, hb3⟩ := ih (i + 1) hR
      have hfi : fs[i]? = some fs[i] := Array.getElem?_eq_getElem (by omega)
      obtain ⟨e1, e2, e3⟩ := hf i _ kR hfi hRi
      have h1 := hall i _ hfi
      have hyi : ys[i]? = some ys[i] := List.getElem?_eq_getElem (by omega)
      rw [hyi] at h1
      obtain ⟨a, ha1, ha2, ha3⟩ := e3 n _ _ h1 fun y hy => hlt y (List.mem_flatMap.2 ⟨_, List.mem_of_getElem? hyi, hy⟩)
      refine ⟨a ++ b, ⟨a, b, rfl, ha1, ha3, hb1⟩, ?_, by simp [ha3, hb3]⟩
      have hsum : ((Rs.take (i + 1)).map (·.1)).sum = ((Rs.take i).map (·.1)).sum + kR.1 := by
        rw [List.take_add_one, hRi]; simp
      rw [e1, e2] at ha2
      rw [hsum] at hb2
      have := dreps_append ha2 hb2
      rwa [← List.drop_drop, List.take_append_drop] at this
  obtain ⟨xs, h1, h2, h3⟩ := key Rs 0 rfl
  refine ⟨xs, h1, by simpa using h2, by rw [h3]; exact hs⟩

def RowsR {α : Type} (k : Nat) (f : α → List AV) (B : α → Prop) (xs : List AV) : Prop := ∃ l : List α, xs = [.sl k (l.map f)] ∧ (∀ p ∈ l, B p) ∧ l.length ≤ 9223372036854775807
theorem opens_slice {α : Type} {t e k : Nat} {f : α → List AV} {B : α → Prop} (ht : P.underlying t = some (.slice e)) (hC : P.cellsOf e = k) (hk : 0 < k) (hel : Opens enc P W e k (fun r => ∃ p, r = f p ∧ B p)) : Opens enc P W t 1 (RowsR k f B) := fun fuel cs x h hlt => by
  rcases open_slice ht h with ⟨rfl, rfl⟩ | ⟨a, len, cap, m, n, D, Pl, rfl, _, hl, hm, hmm, rfl, hi⟩
  · exact ⟨_, ⟨[], rfl, by simp, by simp⟩, by simp [dreps, drep], rfl⟩
  · have hm' : m = cap := by simpa using hmm
    subst hm'
    have hrow : ∀ i, i < len → ∃ r, (∃ p, r = f p ∧ B p) ∧ r.length = k ∧ ∀ b o, a = ⟨b, o, none⟩ → dcells (Old W) W b (o + i * k) r := by
      intro i hil
      obtain ⟨cs', hc, ht'⟩ := hi i (by omega)
      rw [hC] at hc
      obtain ⟨r, h1, h2, h3⟩ := hel n cs' _ ht' fun y hy => hlt y (List.mem_append_right _ (List.mem_flatMap.2 ⟨i, List.mem_range.2 (by omega), hy⟩))
      obtain ⟨_, hcl, hat⟩ := World.cells?_some hc
      refine ⟨r, h1, h3, fun b o ha => ?_⟩
      subst ha
      refine dcells_of_list h2 fun j z hj => ?_
      have hjk : j < k := by
        have := (List.getElem?_eq_some_iff.1 hj).1
        omega
      have h4 := (hat j hjk).trans hj
      rw [addr_add, addr_add] at h4
      exact ⟨h4, cell_lt (by rw [h4]; rfl), by rw [h4]; rfl⟩
    by_cases h0 : len = 0
    · subst h0
      refine ⟨[.sl k []], ⟨[], rfl, by simp, by simp⟩, ?_, rfl⟩
      simp [dreps, drep]
    · have hsp : a.spot = none := by
        obtain ⟨cs', hc, ht'⟩ := hi 0 (by omega)
        rw [hC] at hc
        obtain ⟨_, hcl, hat⟩ := World.cells?_some hc
        have h1 := hat 0 hk
        have h2 : ∃ v, cs'[0]? = some v := ⟨cs'[0], List.getElem?_eq_getElem (by omega)⟩
        obtain ⟨v, hv⟩ := h2
        rw [hv] at h1
        exact espot_of_cell (W := W) (by simpa [Addr.add] using h1)
      obtain ⟨b, o, sp⟩ := a
      simp only at hsp
      subst hsp
      have hex : ∀ n, n ≤ len → ∃ l : List α, l.length = n ∧ (∀ p ∈ l, B p) ∧ drows (Old W) W k b (o + (len - n) * k) (l.map f) := by
        intro n
        induction n with
        | zero => intro _; exact ⟨[], rfl, by simp, by simp [drows]⟩
        | succ n ih =>
          intro hn
          obtain ⟨l, h1, h2, h3⟩ := ih (by omega)
          obtain ⟨r, ⟨p, rfl, hB⟩, h5, h6⟩ := hrow (len - (n + 1)) (by omega)
          refine ⟨p :: l, by simp [h1], fun q hq => ?_, ?_⟩
          · rcases List.mem_cons.1 hq with rfl | hq
            · exact hB
            · exact h2 q hq
          · simp only [List.map_cons, drows]
            refine ⟨⟨h5, h6 b o rfl⟩, ?_⟩
            rwa [show o + (len - (n + 1)) * k + k = o + (len - n) * k by
              have : len - n = (len - (n + 1)) + 1 := by omega
              rw [this, Nat.add_mul]; omega]
      obtain ⟨l, h1, h2, h3⟩ := hex len (Nat.le_refl _)
      rw [Nat.sub_self, Nat.zero_mul, Nat.add_zero] at h3
      refine ⟨_, ⟨l, rfl, h2, by unfold maxLen at hm; omega⟩, ?_, rfl⟩
      simp only [dreps, drep]
      exact ⟨_, _, rfl, ⟨some ⟨b, o, none⟩, m, by rw [List.length_map, h1], .inr ⟨b, o, rfl, h3⟩, by rw [List.length_map, h1]; exact hl⟩, rfl⟩

theorem open_one {t k : Nat} {R : List AV → Prop} (ho : Opens enc P W t k R) {v : Value} {d : DataW H} {p : List MemPlace} (h : DataW.Trod enc P W 0 (fun _ => true) true t v d p) (hlt : ∀ x ∈ p, x.block < W.heap.size) : ∃ xs, R xs ∧ dreps (Old W) W xs v.cells.toList ∧ xs.length = k := by
  obtain ⟨fuel, hf⟩ := h
  exact ho fuel _ _ hf hlt
theorem open_agg {t k : Nat} {R : List AV → Prop} {r : Reach} {b0 : Nat} {fs : Array Field} (ht : P.underlying t = some (.struct fs)) (ho : Opens enc P W t k R) {v : Value} {d : DataW H} {p : List MemPlace} (hv : Value.okWide P W r b0 t v) (h : DataW.Trod enc P W 0 (fun _ => true) true t v d p) (hlt : ∀ x ∈ p, x.block < W.heap.size) :
    ∃ xs, R xs ∧ drep (Old W) W (.agg xs) v := by
  obtain ⟨cs, rfl, _⟩ := okWide_struct ht hv
  obtain ⟨xs, h1, h2, _⟩ := open_one ho h hlt
  exact ⟨xs, h1, by simp only [drep]; exact ⟨cs, rfl, h2⟩⟩
theorem open_cell {t : Nat} {R : List AV → Prop} (ho : Opens enc P W t 1 R) {v : Value} {d : DataW H} {p : List MemPlace} (hc : v.cells = #[v]) (h : DataW.Trod enc P W 0 (fun _ => true) true t v d p) (hlt : ∀ x ∈ p, x.block < W.heap.size) :
    ∃ x, R [x] ∧ drep (Old W) W x v := by
  obtain ⟨xs, h1, h2, h3⟩ := open_one ho h hlt
  rw [hc] at h2
  match xs, h3 with
  | [x], _ =>
    simp only [dreps] at h2
    obtain ⟨y, zs, e, h2, _⟩ := h2
    have : v = y := by
      have := congrArg (·[0]?) e
      simpa using this
    subst this
    exact ⟨x, h1, h2⟩

end
end Go.Proofs.YtkieepmkcaipaaaGreat
