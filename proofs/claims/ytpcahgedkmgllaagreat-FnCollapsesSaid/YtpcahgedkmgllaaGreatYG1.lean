/- Small words on worlds that all walks of this claim share: a call that only makes new blocks ('Bel'), and what a caller may go on reading behind it. No program in sight. -/
import Derived.WalkKit
import Derived.WalkSpells
import Derived.WalkLawsBesides
import Derived.Handy
import Derived.Lib.Hide
import Derived.Test.YtpcahgedkmgllaaGreatRows
import Derived.ProofKit
import Derived.OpenShut
import Derived.Test.YtpcahgedkmgllaaGreatZ4
import Derived.Deep.Slices
namespace Go.Proofs.YtpcahgedkmgllaaGreat
open Go.RowKit

def Bel (w w' : World) : Prop := Below w.heap.size w w'

theorem Bel.refl (w : World) : Bel w w := Below.refl _ w
theorem Bel.trans {a w w' : World} (h : Bel a w) (k : Bel w w') : Bel a w' := Below.trans h (Below.mono k (Below.size h))
theorem Bel.alloc {a w : World} (h : Bel a w) (o : Obj) : Bel a (w.alloc o) := Below.alloc h (Below.size h) o
theorem Bel.drew {a w : World} (h : Bel a w) : Bel a w.drew := Below.drew h
theorem Bel.setCell {a w : World} (h : Bel a w) {p : Addr} (hp : a.heap.size ≤ p.block) (u : Value) : Bel a (w.setCell p u) := Below.setCell h hp u
theorem Bel.size {a w : World} (h : Bel a w) : a.heap.size ≤ w.heap.size := Below.size h
theorem Bel.cell {a w : World} (h : Bel a w) (b o : Nat) (hb : b < a.heap.size) : w.cell? ⟨b, o, none⟩ = a.cell? ⟨b, o, none⟩ := Below.cell (p := ⟨b, o, none⟩) h hb
theorem Bel.frozen {a w : World} (h : Bel a w) (b o : Nat) (hb : b < a.heap.size) : w.frozen? ⟨b, o, none⟩ = a.frozen? ⟨b, o, none⟩ := Below.frozen (p := ⟨b, o, none⟩) h hb
end Go.Proofs.YtpcahgedkmgllaaGreat

namespace Go.Proofs.YtpcahgedkmgllaaGreat
open Go.ChangeShapes Go.WideShapes Go.ChangeAt Go.RowKit

theorem own : ownKnob Tryz.prog.godebug = none := by kernel_rfl
theorem laidOut : laidOutB Tryz.prog = true := by kernel_rfl

section
variable {H : Type} {enc : TypeId × Value → H}

theorem trodAll_bel {P : Program} (hl : laidOutB P = true) {W W' : World} (hb : Bel W W') {sp' : Nat → Bool} : ∀ {ts : List TypeId} {vs : List Value} {ds : List (DataW H)} {ps : List MemPlace},
    (∀ t ∈ ts, P.readableRec t = true ∧ t < P.types.size) → DataW.TrodAll enc P W 0 (fun _ => true) true ts vs ds ps → (∀ x ∈ ps, x.block < W.heap.size) → (∀ x ∈ ps, sp' x.block = true) →
    DataW.TrodAll enc P W' 0 sp' true ts vs ds ps
  | [], [], [], _, _, h, _, _ => h
  | t :: ts, v :: vs, d :: ds, ps, ht, ⟨p, q, h1, h2, e⟩, hlt, hs =>
    ⟨p, q, WideElems.Trod_stays hl (ht t (by simp)).1 (ht t (by simp)).2 h1 (fun x hx => Below.same hb (hlt x (by rw [e]; simp [hx]))) (fun x hx => hs x (by rw [e]; simp [hx])),
      trodAll_bel hl hb (fun t' h' => ht t' (by simp [h'])) h2 (fun x hx => hlt x (by rw [e]; simp [hx])) (fun x hx => hs x (by rw [e]; simp [hx])), e⟩
  | [], _ :: _, _, _, _, h, _, _ => by cases h
  | [], [], _ :: _, _, _, h, _, _ => by cases h
  | _ :: _, [], _, _, _, h, _, _ => by cases h
  | _ :: _, _ :: _, [], _, _, h, _, _ => by cases h

theorem post_of_bel {P : Program} (hl : laidOutB P = true) {f : Func} {s : ChangeSpec} {tb : TypeId} {W W' : World} {args : Array Value} {ds gs : List (DataW H)} {before : List MemPlace}
    (hW : DataW.Whole enc P f.params.toList s.vars false W args.toList ds gs before) (hvs : s.vars = [])
    (hrt : f.resultTypes = #[tb]) (htb : P.underlying tb = some .bool)
    (hread : ∀ t ∈ f.params.toList, P.readableRec t = true ∧ t < P.types.size)
    (hfn : ∀ ds : List (DataW H), ds.length = f.params.size → s.fn H (ds ++ []) = { results := [.lit (.bool true)], args := ds })
    (hb : Bel W W') : s.post enc P f false true false false W args (.bool true) W' := by
  have hlt : ∀ p ∈ before, p.block < W.heap.size := fun p hp => hW.lt p hp
  have hW0 := hW
  obtain ⟨p, q, hA, hV, hpq, hz, hn⟩ := hW
  rw [hvs] at hV
  obtain ⟨rfl, rfl⟩ := trodVars_none hV
  have hlen : ds.length = f.params.size := by
    have : ∀ {ts : List TypeId} {vs : List Value} {es : List (DataW H)} {ps : List MemPlace}, DataW.TrodAll enc P W 0 (fun _ => true) true ts vs es ps → es.length = ts.length := by
      intro ts
      induction ts with
      | nil => intro vs es ps h; cases vs <;> cases es <;> first | rfl | exact h.elim
      | cons t ts ih =>
        intro vs es ps h
        cases vs <;> cases es <;> first | exact h.elim | skip
        obtain ⟨_, _, _, h2, _⟩ := h
        simp [ih h2]
    simpa using this hA
  have hpre : before = p := by simpa using hpq
  subst hpre
  have hr := hfn ds hlen
  refine ⟨ds, [], before, [], before, [], hW0, ?_, ?_, ?_, ?_, fun h => by cases h⟩
  · rw [hr, hrt]
    exact trodAll_mk1 (shut_bool htb _)
  · rw [hr]
    exact trodAll_bel hl hb hread hA hlt (fun x hx => by simpa using hlt x hx)
  · rw [hr, hvs]
    rfl
  · exact World.keptBut_mono (fun x hx => ⟨hx, Or.inr (Or.inl hx)⟩) (Below.frame hb (· ∈ before))

end
end Go.Proofs.YtpcahgedkmgllaaGreat

namespace Go.Proofs.YtpcahgedkmgllaaGreat
open Go.ChangeShapes Go.WideShapes Go.ChangeAt Go.RowKit Go.Deep Go.Eng

def Old (W : World) (b o : Nat) : Prop := b < W.heap.size ∧ (W.cell? ⟨b, o, none⟩).isSome = true

section
variable {H : Type} {enc : TypeId × Value → H} {P : Program} {W : World}

def Opens (enc : TypeId × Value → H) (P : Program) (W : World) (t k : Nat) (R : List AV → Prop) : Prop :=
  ∀ (fuel : Nat) (cs : List Value) (x : DataW H × List MemPlace), DataW.trod enc P W 0 (fun _ => true) true fuel t cs = some x → (∀ y ∈ x.2, y.block < W.heap.size) → ∃ xs, R xs ∧ dreps (Old W) W xs cs ∧ xs.length = k

theorem espot_of_cell {a : Addr} {v : Value} (h : W.cell? a = some v) : a.spot = none := by
  unfold World.cell? at h
  split at h
  · split at h
    · cases h
    · rename_i h'
      simpa using h'
  · cases h
def RowsR {α : Type} (k : Nat) (f : α → List AV) (B : α → Prop) (xs : List AV) : Prop := ∃ l : List α, xs = [.sl k (l.map f)] ∧ (∀ p ∈ l, B p) ∧ l.length ≤ 9223372036854775807
theorem opens_slice {α : Type} {t e k : Nat} {f : α → List AV} {B : α → Prop} (ht : P.underlying t = some (.slice e)) (hC : P.cellsOf e = k) (hk : 0 < k) (hel : Opens enc P W e k (fun r => ∃ p, r = f p ∧ B p)) : Opens enc P W t 1 (RowsR k f B) := fun fuel cs x h hlt => by
  rcases open_slice ht h with ⟨rfl, rfl⟩ | ⟨a, len, cap, m, n, D, Pl, rfl, _, hl, hm, hmm, rfl, hi⟩
  · exact ⟨_, ⟨[], rfl, by simp, by simp⟩, by simp [dreps, drep], rfl⟩
  · have hm' : m = cap := by simpa using hmm
    subst hm'
    have hrow : ∀ i, i < len → ∃ r, (∃ p, r = f p ∧ B p) ∧ r.length = k ∧ ∀ b o, a = ⟨b, o, none⟩ → dcells (Old W) W b (o + i * k) r := by
      intro i hil
      obtain ⟨cs', hc, ht'⟩ := hi i (by omega)
      rw [hC] at hc
      obtain ⟨r, h1, h2, h3⟩ := hel n cs' _ ht' fun y hy => hlt y (List.mem_append_right _ (List.mem_flatMap.2 ⟨i, List.mem_range.2 (by omega), hy⟩))
      obtain ⟨_, hcl, hat⟩ := World.cells?_some hc
      refine ⟨r, h1, h3, fun b o ha => ?_⟩
      subst ha
      refine dcells_of_list h2 fun j z hj => ?_
      have hjk : j < k := by
        have := (List.getElem?_eq_some_iff.1 hj).1
        omega
      have h4 := (hat j hjk).trans hj
      rw [addr_add, addr_add] at h4
      exact ⟨h4, cell_lt (by rw [h4]; rfl), by rw [h4]; rfl⟩
    by_cases h0 : len = 0
    · subst h0
      refine ⟨[.sl k []], ⟨[], rfl, by simp, by simp⟩, ?_, rfl⟩
      simp [dreps, drep]
    · have hsp : a.spot = none := by
        obtain ⟨cs', hc, ht'⟩ := hi 0 (by omega)
        rw [hC] at hc
        obtain ⟨_, hcl, hat⟩ := World.cells?_some hc
        have h1 := hat 0 hk
        have h2 : ∃ v, cs'[0]? = some v := ⟨cs'[0], List.getElem?_eq_getElem (by omega)⟩
        obtain ⟨v, hv⟩ := h2
        rw [hv] at h1
        exact espot_of_cell (W := W) (by simpa [Addr.add] using h1)
      obtain ⟨b, o, sp⟩ := a
      simp only at hsp
      subst hsp
      have hex : ∀ n, n ≤ len → ∃ l : List α, l.length = n ∧ (∀ p ∈ l, B p) ∧ drows (Old W) W k b (o + (len - n) * k) (l.map f) := by
        intro n
        induction n with
        | zero => intro _; exact ⟨[], rfl, by simp, by simp [drows]⟩
        | succ n ih =>
          intro hn
          obtain ⟨l, h1, h2, h3⟩ := ih (by omega)
          obtain ⟨r, ⟨p, rfl, hB⟩, h5, h6⟩ := hrow (len - (n + 1)) (by omega)
          refine ⟨p :: l, by simp [h1], fun q hq => ?_, ?_⟩
          · rcases List.mem_cons.1 hq with rfl | hq
            · exact hB
            · exact h2 q hq
          · simp only [List.map_cons, drows]
            refine ⟨⟨h5, h6 b o rfl⟩, ?_⟩
            rwa [show o + (len - (n + 1)) * k + k = o + (len - n) * k by
              have : len - n = (len - (n + 1)) + 1 := by omega
              rw [this, Nat.add_mul]; omega]
      obtain ⟨l, h1, h2, h3⟩ := hex len (Nat.le_refl _)
      rw [Nat.sub_self, Nat.zero_mul, Nat.add_zero] at h3
      refine ⟨_, ⟨l, rfl, h2, by unfold maxLen at hm; omega⟩, ?_, rfl⟩
      simp only [dreps, drep]
      exact ⟨_, _, rfl, ⟨some ⟨b, o, none⟩, m, by rw [List.length_map, h1], .inr ⟨b, o, rfl, h3⟩, by rw [List.length_map, h1]; exact hl⟩, rfl⟩

theorem open_one {t k : Nat} {R : List AV → Prop} (ho : Opens enc P W t k R) {v : Value} {d : DataW H} {p : List MemPlace} (h : DataW.Trod enc P W 0 (fun _ => true) true t v d p) (hlt : ∀ x ∈ p, x.block < W.heap.size) : ∃ xs, R xs ∧ dreps (Old W) W xs v.cells.toList ∧ xs.length = k := by
  obtain ⟨fuel, hf⟩ := h
  exact ho fuel _ _ hf hlt
theorem open_cell {t : Nat} {R : List AV → Prop} (ho : Opens enc P W t 1 R) {v : Value} {d : DataW H} {p : List MemPlace} (hc : v.cells = #[v]) (h : DataW.Trod enc P W 0 (fun _ => true) true t v d p) (hlt : ∀ x ∈ p, x.block < W.heap.size) :
    ∃ x, R [x] ∧ drep (Old W) W x v := by
  obtain ⟨xs, h1, h2, h3⟩ := open_one ho h hlt
  rw [hc] at h2
  match xs, h3 with
  | [x], _ =>
    simp only [dreps] at h2
    obtain ⟨y, zs, e, h2, _⟩ := h2
    have : v = y := by
      have := congrArg (·[0]?) e
      simpa using this
    subst this
    exact ⟨x, h1, h2⟩

end
end Go.Proofs.YtpcahgedkmgllaaGreat
