/- My walking engine, part 1: abstract values of Go, and the rules of a walk over them. No program in sight. -/
import Derived.WalkKit
import Derived.TacticsIn
import Derived.OrdersIn
import Derived.WalkSpells
import Derived.WalkLawsBesides
import Derived.Handy
import Derived.StillTail
import Derived.Laws.OwnMore
namespace Go.Eng
open Go

inductive AV where
  | top
  | v (x : Value)
  | agg (cs : List AV)
  | tup (xs : List AV)
  | sl (e : Nat) (rows : List (List AV))
  | own (n T e : Nat) (rows : List (List AV))
  | ptr (n off : Nat)
  | eptr (cs : List AV)
  | fn (f : Fn) (first captured : List AV)
  | arr (n T e len : Nat)

/- Data reads so: cells that I names are never written again. -/
mutual
def drep (I : Nat → Nat → Prop) (w : World) : AV → Value → Prop
  | .top, _ => True
  | .v x, y => y = x
  | .agg cs, y => ∃ a : Array Value, y = .agg a ∧ dreps I w cs a.toList
  | .sl e rows, y => ∃ A c, y = .slice A rows.length c ∧ (rows = [] ∨ ∃ b o, A = some ⟨b, o, none⟩ ∧ drows I w e b o rows) ∧ rows.length ≤ c
  | .tup _, _ => False
  | .own .., _ => False
  | .ptr .., _ => False
  | .eptr .., _ => False
  | .fn .., _ => False
  | .arr .., _ => False
def dreps (I : Nat → Nat → Prop) (w : World) : List AV → List Value → Prop
  | [], ys => ys = []
  | x :: xs, ys => ∃ y zs, ys = y :: zs ∧ drep I w x y ∧ dreps I w xs zs
def dcells (I : Nat → Nat → Prop) (w : World) : Nat → Nat → List AV → Prop
  | _, _, [] => True
  | b, o, x :: xs => (∃ z, w.cell? ⟨b, o, none⟩ = some z ∧ I b o ∧ drep I w x z) ∧ dcells I w b (o + 1) xs
def drows (I : Nat → Nat → Prop) (w : World) (e : Nat) : Nat → Nat → List (List AV) → Prop
  | _, _, [] => True
  | b, o, r :: rs => (r.length = e ∧ dcells I w b o r) ∧ drows I w e b (o + e) rs
end

def Keeps (I : Nat → Nat → Prop) (w w' : World) : Prop := ∀ b o, I b o → w'.cell? ⟨b, o, none⟩ = w.cell? ⟨b, o, none⟩

mutual
theorem drep_mono {I I' : Nat → Nat → Prop} {w w' : World} (hI : ∀ b o, I b o → I' b o) (hk : Keeps I w w') : ∀ {x : AV} {y : Value}, drep I w x y → drep I' w' x y
  | .top, _, _ => by simp [drep]
  | .v x, y, h => by simpa [drep] using h
  | .agg cs, y, h => by
    simp only [drep] at h ⊢
    obtain ⟨a, e, h⟩ := h
    exact ⟨a, e, dreps_mono hI hk h⟩
  | .sl e rows, y, h => by
    simp only [drep] at h ⊢
    obtain ⟨A, c, hy, h, hc⟩ := h
    refine ⟨A, c, hy, ?_, hc⟩
    rcases h with h | ⟨b, o, hA, h⟩
    · exact .inl h
    · exact .inr ⟨b, o, hA, drows_mono hI hk h⟩
  | .tup _, _, h => by simp [drep] at h
  | .own .., _, h => by simp [drep] at h
  | .ptr .., _, h => by simp [drep] at h
  | .eptr .., _, h => by simp [drep] at h
  | .fn .., _, h => by simp [drep] at h
  | .arr .., _, h => by simp [drep] at h
theorem dreps_mono {I I' : Nat → Nat → Prop} {w w' : World} (hI : ∀ b o, I b o → I' b o) (hk : Keeps I w w') : ∀ {xs : List AV} {ys : List Value}, dreps I w xs ys → dreps I' w' xs ys
  | [], ys, h => by simpa [dreps] using h
  | x :: xs, ys, h => by
    simp only [dreps] at h ⊢
    obtain ⟨y, zs, e, h1, h2⟩ := h
    exact ⟨y, zs, e, drep_mono hI hk h1, dreps_mono hI hk h2⟩
theorem dcells_mono {I I' : Nat → Nat → Prop} {w w' : World} (hI : ∀ b o, I b o → I' b o) (hk : Keeps I w w') : ∀ {xs : List AV} {b o : Nat}, dcells I w b o xs → dcells I' w' b o xs
  | [], _, _, _ => by simp [dcells]
  | x :: xs, b, o, h => by
    simp only [dcells] at h ⊢
    obtain ⟨⟨z, h1, h2, h3⟩, h4⟩ := h
    exact ⟨⟨z, (hk b o h2).trans h1, hI _ _ h2, drep_mono hI hk h3⟩, dcells_mono hI hk h4⟩
theorem drows_mono {I I' : Nat → Nat → Prop} {w w' : World} (hI : ∀ b o, I b o → I' b o) (hk : Keeps I w w') : ∀ {e : Nat} {rs : List (List AV)} {b o : Nat}, drows I w e b o rs → drows I' w' e b o rs
  | _, [], _, _, _ => by simp [drows]
  | e, r :: rs, b, o, h => by
    simp only [drows] at h ⊢
    exact ⟨⟨h.1.1, dcells_mono hI hk h.1.2⟩, drows_mono hI hk h.2⟩
end

section
variable {I : Nat → Nat → Prop} {w : World}

theorem dreps_length : ∀ {xs : List AV} {ys : List Value}, dreps I w xs ys → ys.length = xs.length
  | [], ys, h => by simp [dreps] at h; simp [h]
  | x :: xs, ys, h => by
    simp only [dreps] at h
    obtain ⟨y, zs, e, h1, h2⟩ := h
    simp [e, dreps_length h2]
theorem dreps_append : ∀ {xs xs' : List AV} {ys ys' : List Value}, dreps I w xs ys → dreps I w xs' ys' → dreps I w (xs ++ xs') (ys ++ ys')
  | [], xs', ys, ys', h, h' => by simp [dreps] at h; simpa [h] using h'
  | x :: xs, xs', ys, ys', h, h' => by
    simp only [dreps] at h
    obtain ⟨y, zs, rfl, h1, h2⟩ := h
    simp only [List.cons_append, dreps]
    exact ⟨y, zs ++ ys', rfl, h1, dreps_append h2 h'⟩
theorem dcells_list : ∀ {xs : List AV} {b o : Nat}, dcells I w b o xs → ∃ zs, dreps I w xs zs ∧ zs.length = xs.length ∧ ∀ j z, zs[j]? = some z → w.cell? ⟨b, o + j, none⟩ = some z ∧ I b (o + j)
  | [], b, o, _ => ⟨[], by simp [dreps], rfl, fun j z h => by simp at h⟩
  | x :: xs, b, o, h => by
    simp only [dcells] at h
    obtain ⟨⟨z, h1, h2, h3⟩, h4⟩ := h
    obtain ⟨zs, g1, g2, g3⟩ := dcells_list h4
    refine ⟨z :: zs, by simp only [dreps]; exact ⟨z, zs, rfl, h3, g1⟩, by simp [g2], fun j u hj => ?_⟩
    cases j with
    | zero => simp at hj; subst hj; exact ⟨h1, h2⟩
    | succ j => have := g3 j u (by simpa using hj); rwa [show o + (j + 1) = o + 1 + j by omega]
theorem dcells_of_list : ∀ {xs : List AV} {b o : Nat} {zs : List Value}, dreps I w xs zs → (∀ j z, zs[j]? = some z → w.cell? ⟨b, o + j, none⟩ = some z ∧ I b (o + j)) → dcells I w b o xs
  | [], b, o, zs, _, _ => by simp [dcells]
  | x :: xs, b, o, zs, h, hz => by
    simp only [dreps] at h
    obtain ⟨y, ys, rfl, h1, h2⟩ := h
    simp only [dcells]
    refine ⟨⟨y, (hz 0 y rfl).1, (hz 0 y rfl).2, h1⟩, dcells_of_list h2 fun j z hj => ?_⟩
    have := hz (j + 1) z (by simpa using hj)
    rwa [show o + (j + 1) = o + 1 + j by omega] at this
theorem dcells_drop : ∀ {xs : List AV} {b o k : Nat}, dcells I w b o xs → dcells I w b (o + k) (xs.drop k)
  | [], b, o, k, _ => by simp [dcells]
  | x :: xs, b, o, 0, h => h
  | x :: xs, b, o, k + 1, h => by
    simp only [dcells] at h
    have := dcells_drop (k := k) h.2
    rwa [show o + 1 + k = o + (k + 1) by omega] at this
theorem drows_get : ∀ {rs : List (List AV)} {e b o i : Nat} {r : List AV}, drows I w e b o rs → rs[i]? = some r → r.length = e ∧ dcells I w b (o + i * e) r
  | [], e, b, o, i, r, h, hr => by simp at hr
  | r' :: rs, e, b, o, i, r, h, hr => by
    simp only [drows] at h
    cases i with
    | zero => simp at hr; subst hr; simpa using h.1
    | succ i =>
      have := drows_get h.2 (by simpa using hr)
      rwa [show o + e + i * e = o + (i + 1) * e by rw [Nat.add_mul]; omega] at this
theorem drows_drop : ∀ {rs : List (List AV)} {e b o k : Nat}, drows I w e b o rs → drows I w e b (o + k * e) (rs.drop k)
  | [], e, b, o, k, _ => by simp [drows]
  | r :: rs, e, b, o, 0, h => by simpa using h
  | r :: rs, e, b, o, k + 1, h => by
    simp only [drows] at h
    have := drows_drop (k := k) h.2
    rwa [show o + e + k * e = o + (k + 1) * e by rw [Nat.add_mul]; omega] at this
theorem drows_take : ∀ {rs : List (List AV)} {e b o k : Nat}, drows I w e b o rs → drows I w e b o (rs.take k)
  | [], e, b, o, k, _ => by simp [drows]
  | r :: rs, e, b, o, 0, h => by simp [drows]
  | r :: rs, e, b, o, k + 1, h => by
    simp only [drows] at h
    simp only [List.take_succ_cons, drows]
    exact ⟨h.1, drows_take h.2⟩
theorem flatten_length : ∀ {rs : List (List AV)} {e : Nat}, (∀ r ∈ rs, r.length = e) → rs.flatten.length = rs.length * e
  | [], e, _ => by simp
  | r :: rs, e, h => by
    have h1 := h r (by simp)
    have h2 := flatten_length (fun r' hr => h r' (by simp [hr]) : ∀ r ∈ rs, r.length = e)
    simp [h1, h2, Nat.add_mul]; omega
theorem dcells_append : ∀ {xs ys : List AV} {b o : Nat}, dcells I w b o (xs ++ ys) ↔ dcells I w b o xs ∧ dcells I w b (o + xs.length) ys
  | [], ys, b, o => by simp [dcells]
  | x :: xs, ys, b, o => by
    simp only [List.cons_append, dcells, dcells_append (xs := xs), List.length_cons, and_assoc]
    rw [show o + 1 + xs.length = o + (xs.length + 1) by omega]
theorem drows_iff : ∀ {rs : List (List AV)} {e b o : Nat}, drows I w e b o rs ↔ (∀ r ∈ rs, r.length = e) ∧ dcells I w b o rs.flatten
  | [], e, b, o => by simp [drows, dcells]
  | r :: rs, e, b, o => by
    simp only [drows, List.flatten_cons, dcells_append, drows_iff (rs := rs), List.mem_cons, forall_eq_or_imp]
    constructor
    · rintro ⟨⟨h1, h2⟩, h3, h4⟩; exact ⟨⟨h1, h3⟩, h2, by rwa [h1]⟩
    · rintro ⟨⟨h1, h3⟩, h2, h4⟩; exact ⟨⟨h1, h2⟩, h3, by rwa [h1] at h4⟩
end

structure Gh where
  I : Nat → Nat → Prop
  m : Nat → Option Nat
  om : Nat → Option Nat
  ow : Nat → Prop
  mt : Nat → Nat

def Cap (w : World) (b k : Nat) : Prop := ∃ A T, w.heap[b]? = some (.cells A T (0, 0)) ∧ A.size = k
theorem Cap.same {w w' : World} {b k : Nat} (h : w'.heap[b]? = w.heap[b]?) (hc : Cap w b k) : Cap w' b k := by unfold Cap at *; rw [h]; exact hc
theorem Cap.lt {w : World} {b k : Nat} (hc : Cap w b k) : b < w.heap.size := by
  obtain ⟨A, T, h, _⟩ := hc
  exact (Array.getElem?_eq_some_iff.1 h).1
def ownRep (g : Gh) (w : World) (n T e : Nat) (rows : List (List AV)) (y : Value) : Prop :=
  g.ow n ∧ y.ownBlock = g.om n ∧ ∃ xs, w.ownsRow 0 T e y rows.length xs ∧ dreps g.I w rows.flatten xs ∧ (∀ r ∈ rows, r.length = e) ∧
    ∀ b, g.om n = some b → (∀ o, o < rows.length * e → g.I b o) ∧ ∀ o, rows.length * e ≤ o → ¬ g.I b o

mutual
def rep (g : Gh) (w : World) : AV → Value → Prop
  | .top, _ => True
  | .v x, y => y = x
  | .agg cs, y => ∃ a : Array Value, y = .agg a ∧ reps g w cs a.toList
  | .tup cs, y => ∃ a : Array Value, y = .tuple a ∧ reps g w cs a.toList
  | .sl e rows, y => drep g.I w (.sl e rows) y
  | .own n T e rows, y => ownRep g w n T e rows y
  | .ptr n off, y => ∃ b, g.m n = some b ∧ y = .pointer (some ⟨b, off, none⟩)
  | .eptr cs, y => ∃ b o, y = .pointer (some ⟨b, o, none⟩) ∧ dcells g.I w b o cs
  | .fn f fs cs, y => ∃ a b : Array Value, y = .func f a b ∧ reps g w fs a.toList ∧ reps g w cs b.toList
  | .arr n T e len, y => ∃ b c, g.m n = some b ∧ g.mt n = T ∧ y = .slice (some ⟨b, 0, none⟩) len c ∧ len ≤ c ∧ (n < 1000000 → c = len) ∧ (7000000 ≤ n → c ≤ maxLen ∧ Cap w b (c * e))
def reps (g : Gh) (w : World) : List AV → List Value → Prop
  | [], ys => ys = []
  | x :: xs, ys => ∃ y zs, ys = y :: zs ∧ rep g w x y ∧ reps g w xs zs
end

section
variable {g : Gh} {w : World}
theorem reps_length : ∀ {xs : List AV} {ys : List Value}, reps g w xs ys → ys.length = xs.length
  | [], ys, h => by simp [reps] at h; simp [h]
  | x :: xs, ys, h => by
    simp only [reps] at h
    obtain ⟨y, zs, e, h1, h2⟩ := h
    simp [e, reps_length h2]
theorem reps_get : ∀ {xs : List AV} {ys : List Value} {i : Nat} {x : AV}, reps g w xs ys → xs[i]? = some x → ∃ y, ys[i]? = some y ∧ rep g w x y
  | [], ys, i, x, h, hx => by simp at hx
  | x' :: xs, ys, i, x, h, hx => by
    simp only [reps] at h
    obtain ⟨y, zs, rfl, h1, h2⟩ := h
    cases i with
    | zero => simp at hx; subst hx; exact ⟨y, rfl, h1⟩
    | succ i => simpa using reps_get h2 (by simpa using hx)
theorem reps_append : ∀ {xs xs' : List AV} {ys ys' : List Value}, reps g w xs ys → reps g w xs' ys' → reps g w (xs ++ xs') (ys ++ ys')
  | [], xs', ys, ys', h, h' => by simp [reps] at h; simpa [h] using h'
  | x :: xs, xs', ys, ys', h, h' => by
    simp only [reps] at h
    obtain ⟨y, zs, rfl, h1, h2⟩ := h
    simp only [List.cons_append, reps]
    exact ⟨y, zs ++ ys', rfl, h1, reps_append h2 h'⟩
theorem reps_take : ∀ {xs : List AV} {ys : List Value} {k : Nat}, reps g w xs ys → reps g w (xs.take k) (ys.take k)
  | [], ys, k, h => by simp [reps] at h; simp [h, reps]
  | x :: xs, ys, 0, h => by simp [reps]
  | x :: xs, ys, k + 1, h => by
    simp only [reps] at h
    obtain ⟨y, zs, rfl, h1, h2⟩ := h
    simp only [List.take_succ_cons, reps]
    exact ⟨y, _, rfl, h1, reps_take h2⟩
theorem reps_drop : ∀ {xs : List AV} {ys : List Value} {k : Nat}, reps g w xs ys → reps g w (xs.drop k) (ys.drop k)
  | [], ys, k, h => by simp [reps] at h; simp [h, reps]
  | x :: xs, ys, 0, h => h
  | x :: xs, ys, k + 1, h => by
    simp only [reps] at h
    obtain ⟨y, zs, rfl, h1, h2⟩ := h
    simpa using reps_drop h2
mutual
theorem rep_of_drep : ∀ {x : AV} {y : Value}, drep g.I w x y → rep g w x y
  | .top, _, _ => by simp [rep]
  | .v x, y, h => by simpa [rep, drep] using h
  | .agg cs, y, h => by
    simp only [drep] at h
    simp only [rep]
    obtain ⟨a, e, h⟩ := h
    exact ⟨a, e, reps_of_dreps h⟩
  | .sl e rows, y, h => by simpa [rep] using h
  | .tup _, _, h => by simp [drep] at h
  | .own .., _, h => by simp [drep] at h
  | .ptr .., _, h => by simp [drep] at h
  | .eptr .., _, h => by simp [drep] at h
  | .fn .., _, h => by simp [drep] at h
  | .arr .., _, h => by simp [drep] at h
theorem reps_of_dreps : ∀ {xs : List AV} {ys : List Value}, dreps g.I w xs ys → reps g w xs ys
  | [], ys, h => by simpa [reps, dreps] using h
  | x :: xs, ys, h => by
    simp only [dreps] at h
    simp only [reps]
    obtain ⟨y, zs, e, h1, h2⟩ := h
    exact ⟨y, zs, e, rep_of_drep h1, reps_of_dreps h2⟩
end
end

structure Goes (g : Gh) (w : World) (g' : Gh) (w' : World) : Prop where
  I : ∀ b o, g.I b o → g'.I b o
  keeps : Keeps g.I w w'
  m : ∀ n b, g.m n = some b → g'.m n = some b
  mt : ∀ n b, g.m n = some b → g'.mt n = g.mt n
  own : ∀ n T e rows y, ownRep g w n T e rows y → ownRep g' w' n T e rows y
  sz : ∀ n b k, 7000000 ≤ n → g.m n = some b → Cap w b k → Cap w' b k

theorem Goes.refl (g : Gh) (w : World) : Goes g w g w := ⟨fun _ _ h => h, fun _ _ _ => rfl, fun _ _ h => h, fun _ _ _ => rfl, fun _ _ _ _ _ h => h, fun _ _ _ _ _ h => h⟩
theorem Goes.trans {g g' g'' : Gh} {w w' w'' : World} (h : Goes g w g' w') (k : Goes g' w' g'' w'') : Goes g w g'' w'' :=
  ⟨fun b o hb => k.I b o (h.I b o hb), fun b o hb => (k.keeps b o (h.I b o hb)).trans (h.keeps b o hb), fun n b hb => k.m n b (h.m n b hb), fun n b hb => (k.mt n b (h.m n b hb)).trans (h.mt n b hb), fun n T e r y hy => k.own n T e r y (h.own n T e r y hy), fun n b j h7 hn hc => k.sz n b j h7 (h.m n b hn) (h.sz n b j h7 hn hc)⟩

mutual
theorem rep_goes {g g' : Gh} {w w' : World} (hg : Goes g w g' w') : ∀ {x : AV} {y : Value}, rep g w x y → rep g' w' x y
  | .top, _, _ => by simp [rep]
  | .v x, y, h => by simpa [rep] using h
  | .agg cs, y, h => by
    simp only [rep] at h ⊢
    obtain ⟨a, e, h⟩ := h
    exact ⟨a, e, reps_goes hg h⟩
  | .tup cs, y, h => by
    simp only [rep] at h ⊢
    obtain ⟨a, e, h⟩ := h
    exact ⟨a, e, reps_goes hg h⟩
  | .sl e rows, y, h => by
    simp only [rep] at h ⊢
    exact drep_mono hg.I hg.keeps h
  | .own n T e rows, y, h => by
    simp only [rep] at h ⊢
    exact hg.own _ _ _ _ _ h
  | .ptr n off, y, h => by
    simp only [rep] at h ⊢
    obtain ⟨b, h1, h2⟩ := h
    exact ⟨b, hg.m _ _ h1, h2⟩
  | .eptr cs, y, h => by
    simp only [rep] at h ⊢
    obtain ⟨b, o, h1, h2⟩ := h
    exact ⟨b, o, h1, dcells_mono hg.I hg.keeps h2⟩
  | .fn f fs cs, y, h => by
    simp only [rep] at h ⊢
    obtain ⟨a, b, h1, h2, h3⟩ := h
    exact ⟨a, b, h1, reps_goes hg h2, reps_goes hg h3⟩
  | .arr n T e len, y, h => by
    simp only [rep] at h ⊢
    obtain ⟨b, c, h1, h2, h3, h4, h5, h6⟩ := h
    exact ⟨b, c, hg.m _ _ h1, (hg.mt _ _ h1).trans h2, h3, h4, h5, fun hn => ⟨(h6 hn).1, hg.sz _ _ _ hn h1 (h6 hn).2⟩⟩
theorem reps_goes {g g' : Gh} {w w' : World} (hg : Goes g w g' w') : ∀ {xs : List AV} {ys : List Value}, reps g w xs ys → reps g' w' xs ys
  | [], ys, h => by simpa [reps] using h
  | x :: xs, ys, h => by
    simp only [reps] at h ⊢
    obtain ⟨y, zs, e, h1, h2⟩ := h
    exact ⟨y, zs, e, rep_goes hg h1, reps_goes hg h2⟩
end

theorem drep_of_own {g : Gh} {w : World} {n T e : Nat} {rows : List (List AV)} {y : Value} (h : ownRep g w n T e rows y) : drep g.I w (.sl e rows) y := by
  obtain ⟨h1, h2, xs, h3, h4, h5, h6⟩ := h
  simp only [drep]
  rcases h3.2 with ⟨rfl, hn⟩ | ⟨b, cap, cur, rfl, _, hh, hnc, hcm, hcs, htake⟩
  · exact ⟨none, 0, by rw [hn], .inl (List.length_eq_zero_iff.1 hn), by rw [hn]; exact Nat.le_refl _⟩
  · refine ⟨_, cap, rfl, .inr ⟨b, 0, rfl, drows_iff.2 ⟨h5, dcells_of_list h4 fun j z hj => ?_⟩⟩, hnc⟩
    have hlt : j < rows.length * e := by
      have := (List.getElem?_eq_some_iff.1 hj).1
      rw [h3.1] at this; exact this
    rw [Nat.zero_add]
    refine ⟨?_, (h6 b (by rw [← h2]; rfl)).1 j hlt⟩
    rw [World.ownsRow.cellAt h3 j hlt]; exact hj
end Go.Eng

namespace Go.Eng
open Go

def look : List (Nat × AV) → Nat → AV
  | [], _ => .top
  | (k, v) :: r, t => bif Nat.beq k t then v else look r t
def cst : Value → AV
  | .agg a => .agg (a.toList.map AV.v)
  | x => .v x
def ev (tm : List (Nat × AV)) : Operand → AV
  | .tmp t => look tm t
  | .const x => cst x
  | .global _ => .top
  | .func f => .v (.func (.func f) #[] #[])

structure BelowM (B : Nat) (M : Nat → Prop) (w w' : World) : Prop where
  os : w'.os = w.os
  tape : w'.tape = w.tape
  output : w'.output = w.output
  size : w.heap.size ≤ w'.heap.size
  block : ∀ k, k < B → ¬ M k → w'.heap[k]? = w.heap[k]?

theorem BelowM.refl (B : Nat) (M : Nat → Prop) (w : World) : BelowM B M w w := ⟨rfl, rfl, rfl, Nat.le_refl _, fun _ _ _ => rfl⟩

structure En where
  P : Program
  B : Nat
  w0 : World
  nt : Nat
  M : Nat → Prop
  ron : List Nat
  I0 : Nat → Nat → Prop
  /-- names that stand for a known block all the way -/
  pin : Nat → Nat → Nat → Prop
  /-- the loop in whose round the frame is; the deferred calls -/
  rd : Option Nat
  df : List Deferred

structure Mem (E : En) (g : Gh) (bl : List (Nat × List AV)) (ow : List Nat) (w : World) : Prop where
  below : BelowM E.B E.M E.w0 w
  base : E.B ≤ w.heap.size
  cell : ∀ b o, g.I b o → (w.cell? ⟨b, o, none⟩).isSome = true
  mfr : ∀ n b, g.m n = some b → (n ∈ E.ron ∨ E.B ≤ b ∨ E.M b) ∧ b < w.heap.size
  ofr : ∀ n b, g.ow n → g.om n = some b → (E.B ≤ b ∨ E.M b) ∧ b < w.heap.size
  minj : ∀ n n' b, g.m n = some b → g.m n' = some b → n = n'
  oinj : ∀ n n' b, g.ow n → g.ow n' → g.om n = some b → g.om n' = some b → n = n'
  disj : ∀ n n' b, g.m n = some b → g.ow n' → g.om n' = some b → False
  blk : ∀ n cs, (n, cs) ∈ bl → ∃ b arr, g.m n = some b ∧ w.heap[b]? = some (.cells arr (g.mt n) (0, 0)) ∧ reps g w cs arr.toList ∧ ∀ o, ¬ g.I b o
  key : ∀ n b, g.m n = some b → ∃ cs, (n, cs) ∈ bl
  own : ∀ n, g.ow n → n ∈ ow
  inew : ∀ b o, g.I b o → E.I0 b o ∨ E.B ≤ b ∨ E.M b
  iold : ∀ b o, E.I0 b o → g.I b o
  pin : ∀ n b T, E.pin n b T → g.m n = some b ∧ g.mt n = T

theorem cell_lt {w : World} {b o : Nat} (h : (w.cell? ⟨b, o, none⟩).isSome = true) : b < w.heap.size := by
  unfold World.cell? at h
  simp only at h
  split at h
  · rename_i hb
    exact (Array.getElem?_eq_some_iff.1 hb).1
  · simp at h

theorem cell_of_heap {w : World} {b : Nat} {arr : Array Value} {T : TypeId} {fr : Nat × Nat} (h : w.heap[b]? = some (.cells arr T fr)) (o : Nat) : w.cell? ⟨b, o, none⟩ = arr[o]? := by
  simp [World.cell?, h]

theorem alloc_heap (w : World) (o : Obj) (k : Nat) (h : k < w.heap.size) : (w.alloc o).heap[k]? = w.heap[k]? := by
  show (w.heap.push o)[k]? = _
  rw [Array.getElem?_push, if_neg (by omega)]
theorem alloc_new (w : World) (o : Obj) : (w.alloc o).heap[w.heap.size]? = some o := by
  show (w.heap.push o)[w.heap.size]? = _
  simp
theorem alloc_size (w : World) (o : Obj) : (w.alloc o).heap.size = w.heap.size + 1 := by
  show (w.heap.push o).size = _
  simp

theorem ownsRow_of_heap {w w' : World} {base T e : Nat} {v : Value} {n : Nat} {xs : List Value} (h : w.ownsRow base T e v n xs) (hh : ∀ b, v.ownBlock = some b → w'.heap[b]? = w.heap[b]?) : w'.ownsRow base T e v n xs := by
  refine ⟨h.1, ?_⟩
  rcases h.2 with h2 | ⟨b, cap, cur, rfl, h3, h4, h5⟩
  · exact .inl h2
  · exact .inr ⟨b, cap, cur, rfl, h3, (hh b rfl).trans h4, h5⟩

theorem ownsRow_lt {w : World} {base T e : Nat} {v : Value} {n : Nat} {xs : List Value} (h : w.ownsRow base T e v n xs) {b : Nat} (hb : v.ownBlock = some b) : b < w.heap.size := by
  rcases h.2 with ⟨rfl, _⟩ | ⟨b', cap, cur, rfl, h3, h4, h5⟩
  · simp [Value.ownBlock] at hb
  · simp only [Value.ownBlock, Option.some.injEq] at hb
    subst hb
    exact (Array.getElem?_eq_some_iff.1 h4).1

theorem ownRep_goes {g g' : Gh} {w w' : World} (hI : ∀ b o, g.I b o → g'.I b o) (hk : Keeps g.I w w') (how : ∀ n, g.ow n → g'.ow n ∧ g'.om n = g.om n)
    (hh : ∀ n b, g.ow n → g.om n = some b → w'.heap[b]? = w.heap[b]?) (hI' : ∀ n b o, g.ow n → g.om n = some b → g'.I b o → g.I b o)
    {n T e : Nat} {rows : List (List AV)} {y : Value} (h : ownRep g w n T e rows y) : ownRep g' w' n T e rows y := by
  obtain ⟨h1, h2, xs, h3, h4, h5, h6⟩ := h
  refine ⟨(how n h1).1, h2.trans (how n h1).2.symm, xs, ownsRow_of_heap h3 (fun b hb => hh n b h1 (h2 ▸ hb)), dreps_mono hI hk h4, h5, fun b hb => ?_⟩
  rw [(how n h1).2] at hb
  exact ⟨fun o ho => hI _ _ ((h6 b hb).1 o ho), fun o ho hI2 => (h6 b hb).2 o ho (hI' n b o h1 hb hI2)⟩

theorem Mem.newBlock {E : En} {g : Gh} {bl : List (Nat × List AV)} {ow : List Nat} {w : World} (h : Mem E g bl ow w) (n : Nat) (hn : ∀ q ∈ bl, n ≠ q.1) (cs : List AV) (arr : Array Value) (T : TypeId) (hr : reps g w cs arr.toList) :
    ∃ g', Goes g w g' (w.alloc (.cells arr T)) ∧ Mem E g' ((n, cs) :: bl) ow (w.alloc (.cells arr T)) ∧ g'.m n = some w.heap.size ∧ g'.mt n = T := by
  have hnone : g.m n = none := by
    cases hm : g.m n with
    | none => rfl
    | some b => obtain ⟨cs', hc⟩ := h.key n b hm; exact absurd rfl (hn _ hc)
  let g' : Gh := { g with m := fun k => if k = n then some w.heap.size else g.m k, mt := fun k => if k = n then T else g.mt k }
  have hm : ∀ k b, g'.m k = some b → (k = n ∧ b = w.heap.size) ∨ (k ≠ n ∧ g.m k = some b) := by
    intro k b hk
    by_cases e : k = n
    · simp only [g', e, if_true, Option.some.injEq] at hk; exact .inl ⟨e, hk.symm⟩
    · simp only [g', e, if_false] at hk; exact .inr ⟨e, hk⟩
  have hIlt : ∀ b o, g.I b o → b < w.heap.size := fun b o hb => cell_lt (h.cell b o hb)
  have keeps : Keeps g.I w (w.alloc (.cells arr T)) := fun b o hb => World.cell?_of_block (a := ⟨b, o, none⟩) (alloc_heap w _ b (hIlt b o hb))
  have goes : Goes g w g' (w.alloc (.cells arr T)) := by
    refine ⟨fun _ _ h => h, keeps, fun k b hk => ?_, fun k b hk => ?_, fun k T' e rows y hy => ?_, fun _ b _ _ _ hc => hc.same (alloc_heap w _ b hc.lt)⟩
    · have : k ≠ n := fun e => by rw [e, hnone] at hk; cases hk
      simp [g', this, hk]
    · have : k ≠ n := fun e => by rw [e, hnone] at hk; cases hk
      simp [g', this]
    · exact ownRep_goes (g := g) (g' := g') (fun _ _ h => h) keeps (fun k hk => ⟨hk, rfl⟩) (fun k b h1 h2 => alloc_heap w _ b (h.ofr k b h1 h2).2) (fun _ _ _ _ _ h => h) hy
  refine ⟨g', goes, ?_, by simp [g'], by simp [g']⟩
  refine { below := ⟨h.below.os, h.below.tape, h.below.output, Nat.le_trans h.below.size (by rw [alloc_size]; omega), fun k hk hM => (alloc_heap w _ k (Nat.lt_of_lt_of_le hk h.base)).trans (h.below.block k hk hM)⟩,
           base := by rw [alloc_size]; have := h.base; omega, cell := fun b o hb => by rw [keeps b o hb]; exact h.cell b o hb, mfr := ?_, ofr := ?_, minj := ?_, oinj := h.oinj, disj := ?_, blk := ?_, key := ?_, own := h.own, inew := h.inew, iold := h.iold, pin := fun n b T hp => ⟨goes.m n b (h.pin n b T hp).1, (goes.mt n b (h.pin n b T hp).1).trans (h.pin n b T hp).2⟩ }
  · intro k b hk
    rw [alloc_size]
    rcases hm k b hk with ⟨rfl, rfl⟩ | ⟨_, h2⟩
    · exact ⟨.inr (.inl h.base), by omega⟩
    · have := h.mfr k b h2; exact ⟨this.1, by omega⟩
  · intro k b h1 h2
    have := h.ofr k b h1 h2
    rw [alloc_size]; exact ⟨this.1, by omega⟩
  · intro k k' b h1 h2
    rcases hm k b h1 with ⟨rfl, rfl⟩ | ⟨_, h1'⟩ <;> rcases hm k' _ h2 with ⟨h3, h4⟩ | ⟨_, h2'⟩
    · exact h3.symm
    · have := (h.mfr k' _ h2').2; omega
    · subst h4; have := (h.mfr k _ h1').2; omega
    · exact h.minj k k' b h1' h2'
  · intro k k' b h1 h2 h3
    rcases hm k b h1 with ⟨rfl, rfl⟩ | ⟨_, h1'⟩
    · have := (h.ofr k' _ h2 h3).2; omega
    · exact h.disj k k' b h1' h2 h3
  · intro k cs' hk
    rcases List.mem_cons.1 hk with hk | hk
    · cases hk
      exact ⟨w.heap.size, arr, by simp [g'], by simp only [g', if_true]; exact alloc_new w _, reps_goes goes hr, fun o ho => by have := hIlt _ o ho; omega⟩
    · obtain ⟨b, arr', h1, h2, h3, h4⟩ := h.blk k cs' hk
      exact ⟨b, arr', goes.m k b h1, by rw [goes.mt k b h1]; exact (alloc_heap w _ b (h.mfr k b h1).2).trans h2, reps_goes goes h3, h4⟩
  · intro k b hk
    rcases hm k b hk with ⟨rfl, rfl⟩ | ⟨_, h2⟩
    · exact ⟨cs, by simp⟩
    · obtain ⟨cs', hc⟩ := h.key k b h2; exact ⟨cs', by simp [hc]⟩

theorem Mem.newOwn {E : En} {g : Gh} {bl : List (Nat × List AV)} {ow : List Nat} {w : World} (h : Mem E g bl ow w) (n : Nat) (hn : n ∉ ow) (T e : Nat) (rows : List (List AV)) (hlen : ∀ r ∈ rows, r.length = e) (arr : Array Value)
    (hm : rows.length ≤ maxLen) (hr : dreps g.I w rows.flatten arr.toList) :
    ∃ g', Goes g w g' (w.alloc (.cells arr T)) ∧ Mem E g' bl (n :: ow) (w.alloc (.cells arr T)) ∧ ownRep g' (w.alloc (.cells arr T)) n T e rows (.slice (some ⟨w.heap.size, 0, none⟩) rows.length rows.length) := by
  have hno : ¬ g.ow n := fun hw => hn (h.own n hw)
  have hasz : arr.size = rows.length * e := by
    have := dreps_length hr
    rw [flatten_length hlen] at this
    simpa using this
  let g' : Gh := { g with I := fun b o => g.I b o ∨ (b = w.heap.size ∧ o < rows.length * e), ow := fun k => k = n ∨ g.ow k, om := fun k => if k = n then some w.heap.size else g.om k }
  have hIlt : ∀ b o, g.I b o → b < w.heap.size := fun b o hb => cell_lt (h.cell b o hb)
  have keeps : Keeps g.I w (w.alloc (.cells arr T)) := fun b o hb => World.cell?_of_block (a := ⟨b, o, none⟩) (alloc_heap w _ b (hIlt b o hb))
  have how : ∀ k, g.ow k → g'.ow k ∧ g'.om k = g.om k := fun k hk => ⟨.inr hk, by
    have : k ≠ n := fun e => hno (e ▸ hk)
    simp [g', this]⟩
  have homc : ∀ k b, g'.ow k → g'.om k = some b → (k = n ∧ b = w.heap.size) ∨ (g.ow k ∧ g.om k = some b) := by
    intro k b hk hb
    by_cases e : k = n
    · simp only [g', e, if_true, Option.some.injEq] at hb; exact .inl ⟨e, hb.symm⟩
    · simp only [g', e, if_false, false_or] at hb hk; exact .inr ⟨hk, hb⟩
  have goes : Goes g w g' (w.alloc (.cells arr T)) := by
    refine ⟨fun _ _ h => .inl h, keeps, fun k b hk => hk, fun _ _ _ => rfl, fun k T' e' rows' y hy => ?_, fun _ b _ _ _ hc => hc.same (alloc_heap w _ b hc.lt)⟩
    exact ownRep_goes (g := g) (g' := g') (fun _ _ h => .inl h) keeps how (fun k b h1 h2 => alloc_heap w _ b (h.ofr k b h1 h2).2)
      (fun k b o h1 h2 h3 => h3.resolve_right fun h4 => by have := (h.ofr k b h1 h2).2; omega) hy
  have hnew : ∀ j z, arr.toList[j]? = some z → (w.alloc (.cells arr T)).cell? ⟨w.heap.size, j, none⟩ = some z := fun j z hj => by
    rw [cell_of_heap (alloc_new w _)]; simpa using hj
  refine ⟨g', goes, ?_, .inl rfl, by simp [g', Value.ownBlock], arr.toList, ?_, dreps_mono goes.I keeps hr, hlen, fun b hb => ?_⟩
  · refine { below := ⟨h.below.os, h.below.tape, h.below.output, Nat.le_trans h.below.size (by rw [alloc_size]; omega), fun k hk hM => (alloc_heap w _ k (Nat.lt_of_lt_of_le hk h.base)).trans (h.below.block k hk hM)⟩,
             base := by rw [alloc_size]; have := h.base; omega, cell := ?_, mfr := ?_, ofr := ?_, minj := h.minj, oinj := ?_, disj := ?_, blk := ?_, key := h.key, own := ?_, inew := ?_, iold := fun b o hb => .inl (h.iold b o hb), pin := h.pin }
    · intro b o hb
      rcases hb with hb | ⟨rfl, ho⟩
      · rw [keeps b o hb]; exact h.cell b o hb
      · rw [cell_of_heap (alloc_new w _)]; simp [hasz, ho]
    · intro k b hk
      have := h.mfr k b hk; rw [alloc_size]; exact ⟨this.1, by omega⟩
    · intro k b h1 h2
      rw [alloc_size]
      rcases homc k b h1 h2 with ⟨_, rfl⟩ | ⟨h3, h4⟩
      · exact ⟨.inl h.base, by omega⟩
      · have := h.ofr k b h3 h4; exact ⟨this.1, by omega⟩
    · intro k k' b h1 h1' h2 h2'
      rcases homc k b h1 h2 with ⟨rfl, rfl⟩ | ⟨h3, h4⟩ <;> rcases homc k' _ h1' h2' with ⟨h5, h6⟩ | ⟨h5, h6⟩
      · exact h5.symm
      · have := (h.ofr k' _ h5 h6).2; omega
      · subst h6; have := (h.ofr k _ h3 h4).2; omega
      · exact h.oinj k k' b h3 h5 h4 h6
    · intro k k' b h1 h2 h3
      rcases homc k' b h2 h3 with ⟨_, rfl⟩ | ⟨h4, h5⟩
      · have := (h.mfr k _ h1).2; omega
      · exact h.disj k k' b h1 h4 h5
    · intro k cs' hk
      obtain ⟨b, arr', h1, h2, h3, h4⟩ := h.blk k cs' hk
      have hb := (h.mfr k b h1).2
      exact ⟨b, arr', h1, (alloc_heap w _ b hb).trans h2, reps_goes goes h3, fun o ho => by
        rcases ho with ho | ⟨rfl, _⟩
        · exact h4 o ho
        · omega⟩
    · intro k hk
      rcases hk with rfl | hk
      · simp
      · simp [h.own k hk]
    · intro b o hb
      rcases hb with hb | ⟨rfl, _⟩
      · exact h.inew b o hb
      · exact .inr (.inl h.base)
  · exact World.ownsRow_lit w arr rows.length (Nat.zero_le _) hm hasz
  · have : b = w.heap.size := by simpa [g'] using hb.symm
    subst this
    exact ⟨fun o ho => .inr ⟨rfl, ho⟩, fun o ho hI => by
      rcases hI with hI | ⟨_, hI⟩
      · have := hIlt _ o hI; omega
      · omega⟩

def UponQ (P : Program) (K : Value → World → Prop) : Result Next → Prop
  | .ok (.value y) w' => K y w'
  | .ok .skip w' => K undef w'
  | .ok (.enter f args) w' => Calls P f args w' fun e w'' => ∃ y, e = .returned y ∧ K y w''
  | _ => False

abbrev fo (rd : Option Nat) : Fence := { fn := fun _ => True, depth := none, alive := false, round := rd }
theorem wp_of_uponQ {P : Program} {rd : Option Nat} {o : Oper} {a : Act} {w : World} {K : Value → World → Prop} {next : Act → World → Prop} {Q : Exit → Act → World → Prop}
    (h : UponQ P K ((execOp a.eval o).run P w)) (hK : ∀ y w', K y w' → next (a.put o.dst y) w') : o.wpIn (fo rd) 0 P a w next Q := by
  refine ⟨fun _ _ => trivial, ?_⟩
  have hs : o.semAt rd a.eval = execOp a.eval o := by
    cases ho : o.op with
    | defer c =>
      exfalso
      rw [show execOp a.eval o = (do pure (.defer (← resolve a.eval c o.type))) by simp [execOp, ho]] at h
      revert h
      rw [Sem.run_bind]
      cases (resolve a.eval c o.type).run P w <;> simp [Result.andThen, UponQ]
    | _ => exact Oper.semAt_eq rd a.eval o fun c hc => by rw [ho] at hc; cases hc
  rw [hs]
  generalize (execOp a.eval o).run P w = r at *
  cases r with
  | ok n w' =>
    cases n <;> simp only [UponQ] at h <;> simp only [Oper.uponIn]
    case value y => exact hK _ _ h
    case skip => exact hK _ _ h
    case enter f args => exact ⟨fun h0 => by simp at h0, callsIn_wide.2 (h.mono fun e w'' ⟨y, he, hy⟩ => by subst he; exact hK _ _ hy)⟩
  | halt x w' => simp only [UponQ] at h

theorem wp_W {P : Program} {c : Code} {Q K : Exit → Act → World → Prop} {a : Act} {w : World} (h : c.wpIn (fo none) 0 P Q a w) (hK : ∀ e a w, Q e a w → K e a w) : c.wp P K a w := wp_mono (wpIn_wide.1 h) hK
theorem wpIn_of_wp {P : Program} {rd : Option Nat} {o : Oper} {a : Act} {w : World} {next : Act → World → Prop} {Q : Exit → Act → World → Prop} (hd : ∀ c, o.op ≠ .defer c) (h : o.wp P a w next Q) : o.wpIn (fo rd) 0 P a w next Q := by
  refine ⟨fun _ _ => trivial, ?_⟩
  have hs : o.semAt rd a.eval = execOp a.eval o := Oper.semAt_eq rd a.eval o hd
  rw [hs]
  unfold Oper.wp at h
  generalize (execOp a.eval o).run P w = r at *
  have hdep : (fo rd).depth.isSome = true → 1 ≤ 0 := fun h0 => by simp at h0
  cases r with
  | ok n w' =>
    cases n <;> simp only [Oper.upon] at h <;> simp only [Oper.uponIn]
    case value y => exact h
    case skip => exact h
    case defer d => exact h
    case enter f args => exact ⟨hdep, callsIn_wide.2 h⟩
    case row r args => exact ⟨hdep, fun c cs _ => let ⟨v, w', h1, h2⟩ := h c cs; ⟨v, w', h1, stepsIn_wide.2 h2⟩⟩
  | halt x w' => cases x <;> simp only [Oper.upon] at h <;> simp only [Oper.uponIn] <;> exact h

def QV (E : En) (bl : List (Nat × List AV)) (tm : List (Nat × AV)) (o : Oper) (v : AV) (nb : List (Nat × List AV)) (no : List Nat) : Prop :=
  ∀ (g : Gh) (w : World) (ρ : Operand → Value) (bl' : List (Nat × List AV)) (ow' : List Nat), Mem E g bl' ow' w → (∀ p ∈ bl, p ∈ bl') → (∀ p ∈ nb, ∀ q ∈ bl', p.1 ≠ q.1) → (∀ n ∈ no, n ∉ ow') →
    (∀ x ∈ o.op.operands, rep g w (ev tm x) (ρ x)) →
    UponQ E.P (fun y w' => ∃ g', Goes g w g' w' ∧ Mem E g' (nb ++ bl') (no ++ ow') w' ∧ rep g' w' v y) ((execOp ρ o).run E.P w)

theorem QV_pure {E : En} {bl : List (Nat × List AV)} {tm : List (Nat × AV)} {o : Oper} {v : AV}
    (h : ∀ (g : Gh) (w : World) (ρ : Operand → Value), (∀ x ∈ o.op.operands, rep g w (ev tm x) (ρ x)) → ∃ y, (execOp ρ o).run E.P w = .ok (.value y) w ∧ rep g w v y) : QV E bl tm o v [] [] := by
  intro g w ρ bl' ow' hm _ _ _ hop
  obtain ⟨y, hy, hr⟩ := h g w ρ hop
  rw [hy]
  exact ⟨g, Goes.refl g w, hm, hr⟩

theorem rep_cst {g : Gh} {w : World} (x : Value) : rep g w (cst x) x := by
  cases x <;> simp only [cst, rep]
  case agg a =>
    refine ⟨a, rfl, ?_⟩
    have : ∀ l : List Value, reps g w (l.map AV.v) l := by
      intro l
      induction l with
      | nil => simp [reps]
      | cons x l ih => simp only [List.map_cons, reps]; exact ⟨x, l, rfl, by simp [rep], ih⟩
    exact this _
theorem rep_ev {g : Gh} {w : World} {tm : List (Nat × AV)} {a : Act} (h : ∀ t, rep g w (look tm t) (a.tmps.getD t undef)) (x : Operand) : rep g w (ev tm x) (a.eval x) := by
  cases x with
  | tmp t => exact h t
  | const x => exact rep_cst x
  | global n => simp [ev, rep]
  | func f => simp only [ev, rep, Act.eval]
end Go.Eng

namespace Go.Eng
open Go

class TyOk (P : Program) (t : Nat) (ag : outParam Bool) (sz : outParam Nat) : Prop where
  ag : ∀ w, (isAgg t).run P w = .ok ag w
  sz : ∀ w, (sizeOf t).run P w = .ok sz w
class FldOk (P : Program) (s f : Nat) (off : outParam Nat) (ag : outParam Bool) (sz : outParam Nat) : Prop where
  fld : ∃ fs fd, P.underlying s = some (.struct fs) ∧ fs[f]? = some fd ∧ fd.offset = off ∧ TyOk P fd.type ag sz
  pos : 0 < sz
class ZeroOk (P : Program) (t : Nat) (z : outParam Value) : Prop where
  zero : ∀ w, (zeroValue t).run P w = .ok z w
class SlOk (P : Program) (t : Nat) (T e by_ : outParam Nat) : Prop where
  und : P.underlying t = some (.slice T)
  info : ∃ i z, P.info? T = some i ∧ i.zero = some z ∧ i.size = e ∧ i.bytes = by_ ∧ z.cells.size = e
  pos : 0 < e

section
variable {E : En} {bl : List (Nat × List AV)} {tm : List (Nat × AV)} {d : Option Tmp} {ty : TypeId} {pos : String} {af : Array Edge} {gd : Option (Nat × Bool)}

theorem QV_move {x : Operand} {v : AV} (h : ev tm x = v) : QV E bl tm ⟨d, .move x, ty, pos, af, gd⟩ v [] [] :=
  QV_pure fun g w ρ hop => ⟨ρ x, rfl, h ▸ hop x (by simp [Op.operands])⟩
theorem QV_assign {x : Operand} {v : AV} (h : ev tm x = v) : QV E bl tm ⟨d, .assign x, ty, pos, af, gd⟩ v [] [] :=
  QV_pure fun g w ρ hop => ⟨ρ x, rfl, h ▸ hop x (by simp [Op.operands])⟩
theorem QV_pick {c x y : Operand} {b : Bool} {v : AV} (hc : ev tm c = .v (.bool b)) (h : (bif b then ev tm x else ev tm y) = v) : QV E bl tm ⟨d, .pick c x y, ty, pos, af, gd⟩ v [] [] :=
  QV_pure fun g w ρ hop => by
    have h1 := hop c (by simp [Op.operands])
    have h2 := hop x (by simp [Op.operands])
    have h3 := hop y (by simp [Op.operands])
    rw [hc] at h1
    simp only [rep] at h1
    cases b
    · exact ⟨ρ y, by simp [execOp, h1, asBool], h ▸ h3⟩
    · exact ⟨ρ x, by simp [execOp, h1, asBool], h ▸ h2⟩

def abin (op : BinOp) (k : IntKind) (a b : Int) : Option Value :=
  match op with
  | .add => some (.int k (k.wrap (a + b)))
  | .sub => some (.int k (k.wrap (a - b)))
  | .mul => some (.int k (k.wrap (a * b)))
  | .eql => some (.bool (a == b))
  | .neq => some (.bool (a != b))
  | .lss => some (.bool (decide (a < b)))
  | .leq => some (.bool (decide (a ≤ b)))
  | .gtr => some (.bool (decide (b < a)))
  | .geq => some (.bool (decide (b ≤ a)))
  | _ => none
theorem run_abin {P : Program} {w : World} {op : BinOp} {k : IntKind} {a b : Int} {r : Value} {xT : TypeId} {x y : Operand} (h : abin op k a b = some r) :
    (do eqGuard op xT x y (.int k a) (.int k b); binOp op xT (.int k a) (.int k b) : Sem Value).run P w = .ok r w := by
  cases op <;> simp only [abin, Option.some.injEq, reduceCtorEq] at h <;> subst h <;>
    simp [eqGuard, binOp, Op.intArith, Op.intCmp]
theorem QV_bin {op : BinOp} {xT yT : TypeId} {x y : Operand} {k : IntKind} {a b : Int} {r : Value} (hx : ev tm x = .v (.int k a)) (hy : ev tm y = .v (.int k b)) (h : abin op k a b = some r) :
    QV E bl tm ⟨d, .binOp op xT x y yT, ty, pos, af, gd⟩ (.v r) [] [] :=
  QV_pure fun g w ρ hop => by
    have h1 := hop x (by simp [Op.operands])
    have h2 := hop y (by simp [Op.operands])
    rw [hx] at h1; rw [hy] at h2
    simp only [rep] at h1 h2
    have hr := run_abin (P := E.P) (w := w) (xT := xT) (x := x) (y := y) h
    refine ⟨r, ?_, by simp [rep]⟩
    simp only [execOp, h1, h2]
    rw [Sem.run_bind, hr]
    rfl
theorem i64w {n : Int} (h : -9223372036854775808 ≤ n ∧ n ≤ 9223372036854775807) : IntKind.i64.wrap n = n := IntWalk.i64_in _ h
def aar (op : BinOp) (a b : Int) : Option Int :=
  match op with
  | .add => some (a + b)
  | .sub => some (a - b)
  | .mul => some (a * b)
  | _ => none
theorem QV_ar {op : BinOp} {xT yT : TypeId} {x y : Operand} {a b r : Int} (hx : ev tm x = .v (.int .i64 a)) (hy : ev tm y = .v (.int .i64 b)) (h : aar op a b = some r)
    (hr : -9223372036854775808 ≤ r ∧ r ≤ 9223372036854775807) : QV E bl tm ⟨d, .binOp op xT x y yT, ty, pos, af, gd⟩ (.v (.int .i64 r)) [] [] := by
  refine QV_bin hx hy ?_
  cases op <;> simp only [aar, Option.some.injEq, reduceCtorEq] at h <;> subst h <;> simp only [abin] <;> rw [i64w hr]
def adv (op : BinOp) (k : IntKind) (a b : Int) : Option Value :=
  match op with
  | .quo => some (.int k (k.wrap (a.tdiv b)))
  | .rem => some (.int k (a.tmod b))
  | _ => none
theorem QV_div {op : BinOp} {xT yT : TypeId} {x y : Operand} {k : IntKind} {a b : Int} {r : Value} (hx : ev tm x = .v (.int k a)) (hy : ev tm y = .v (.int k b)) (h0 : b ≠ 0) (h : adv op k a b = some r) :
    QV E bl tm ⟨d, .binOp op xT x y yT, ty, pos, af, gd⟩ (.v r) [] [] :=
  QV_pure fun g w ρ hop => by
    have h1 := hop x (by simp [Op.operands])
    have h2 := hop y (by simp [Op.operands])
    rw [hx] at h1; rw [hy] at h2
    simp only [rep] at h1 h2
    refine ⟨r, ?_, by simp [rep]⟩
    simp only [execOp, h1, h2]
    cases op <;> simp only [adv, Option.some.injEq, reduceCtorEq] at h <;> subst h <;>
      simp [eqGuard, binOp, Op.intDiv, h0]
theorem run_equal_bool {P : Program} {w : World} {t : TypeId} {a b : Bool} (hu : P.underlying t = some .bool) : (Op.equal t (.bool a) (.bool b)).run P w = .ok (a == b) w := by
  have : ∀ k, (Op.equalIn (k + 1) t (.bool a) (.bool b)).run P w = .ok (a == b) w := fun k => by simp [Op.equalIn, run_underlying hu]
  exact this 9999
theorem QV_beq {xT yT : TypeId} {x y : Operand} {a b : Bool} (hu : E.P.underlying xT = some .bool) (hx : ev tm x = .v (.bool a)) (hy : ev tm y = .v (.bool b)) :
    QV E bl tm ⟨d, .binOp .eql xT x y yT, ty, pos, af, gd⟩ (.v (.bool (a == b))) [] [] :=
  QV_pure fun g w ρ hop => by
    have h1 := hop x (by simp [Op.operands])
    have h2 := hop y (by simp [Op.operands])
    rw [hx] at h1; rw [hy] at h2
    simp only [rep] at h1 h2
    refine ⟨.bool (a == b), ?_, by simp only [rep]⟩
    simp [execOp, h1, h2, eqGuard, binOp, run_equal_bool hu]
theorem QV_bne {xT yT : TypeId} {x y : Operand} {a b : Bool} (hu : E.P.underlying xT = some .bool) (hx : ev tm x = .v (.bool a)) (hy : ev tm y = .v (.bool b)) :
    QV E bl tm ⟨d, .binOp .neq xT x y yT, ty, pos, af, gd⟩ (.v (.bool (!(a == b)))) [] [] :=
  QV_pure fun g w ρ hop => by
    have h1 := hop x (by simp [Op.operands])
    have h2 := hop y (by simp [Op.operands])
    rw [hx] at h1; rw [hy] at h2
    simp only [rep] at h1 h2
    refine ⟨.bool (!(a == b)), ?_, by simp only [rep]⟩
    simp [execOp, h1, h2, eqGuard, binOp, run_equal_bool hu]
theorem QV_not {t : TypeId} {x : Operand} {a : Bool} (hx : ev tm x = .v (.bool a)) : QV E bl tm ⟨d, .unOp .not t x, ty, pos, af, gd⟩ (.v (.bool (!a))) [] [] :=
  QV_pure fun g w ρ hop => by
    have h1 := hop x (by simp [Op.operands])
    rw [hx] at h1
    simp only [rep] at h1
    exact ⟨_, by simp [execOp, h1, Op.unary]; rfl, by simp only [rep]⟩
theorem QV_neg {t : TypeId} {x : Operand} {k : IntKind} {a : Int} (hx : ev tm x = .v (.int k a)) : QV E bl tm ⟨d, .unOp .neg t x, ty, pos, af, gd⟩ (.v (.int k (k.wrap (0 - a)))) [] [] :=
  QV_pure fun g w ρ hop => by
    have h1 := hop x (by simp [Op.operands])
    rw [hx] at h1
    simp only [rep] at h1
    exact ⟨_, by simp only [execOp, h1, Op.unary, Op.intArith]; rfl, by simp only [rep]⟩
theorem QV_neg' {t : TypeId} {x : Operand} {a : Int} (hx : ev tm x = .v (.int .i64 a)) (hr : -9223372036854775807 ≤ a ∧ a ≤ 9223372036854775807) : QV E bl tm ⟨d, .unOp .neg t x, ty, pos, af, gd⟩ (.v (.int .i64 (-a))) [] [] := by
  have := QV_neg (E := E) (bl := bl) (d := d) (ty := ty) (pos := pos) (af := af) (gd := gd) (t := t) hx
  rwa [i64w (by omega), show 0 - a = -a by omega] at this
theorem QV_field {s f : Nat} {x : Operand} {cs : List AV} {off sz : Nat} {ag : Bool} {v : AV} [hf : FldOk E.P s f off ag sz] (hx : ev tm x = .agg cs)
    (h : (bif ag then some (.agg ((cs.drop off).take sz)) else cs[off]?) = some v) (hl : off + sz ≤ cs.length) : QV E bl tm ⟨d, .field s x f, ty, pos, af, gd⟩ v [] [] :=
  QV_pure fun g w ρ hop => by
    have h1 := hop x (by simp [Op.operands])
    rw [hx] at h1
    simp only [rep] at h1
    obtain ⟨arr, h1, h2⟩ := h1
    obtain ⟨fs, fd, e1, e2, rfl, e4⟩ := hf.fld
    cases ag
    · simp only [cond_false] at h
      obtain ⟨y, hy, hr⟩ := reps_get h2 h
      have hy' : arr[fd.offset]? = some y := by simpa using hy
      refine ⟨y, ?_, hr⟩
      simp [execOp, h1, Instr.field, run_underlying e1, e2, part, asAgg, e4.ag, hy']
    · simp only [cond_true, Option.some.injEq] at h
      subst h
      refine ⟨.agg (arr.extract fd.offset (fd.offset + sz)), ?_, ?_⟩
      · simp [execOp, h1, Instr.field, run_underlying e1, e2, part, asAgg, e4.ag, e4.sz]
      · simp only [rep]
        refine ⟨_, rfl, ?_⟩
        have := reps_take (k := sz) (reps_drop (k := fd.offset) h2)
        rw [show (arr.extract fd.offset (fd.offset + sz)).toList = (arr.toList.drop fd.offset).take sz by simp]
        exact this
theorem run_fieldPlace {P : Program} {w : World} {a : Addr} {f : Field} {ag : Bool} {sz : Nat} (h : TyOk P f.type ag sz) (hp : 0 < sz) : (fieldPlace a f).run P w = .ok (a.add f.offset) w := by
  have : sz ≠ 0 := by omega
  simp [fieldPlace, h.sz, this]
theorem addr_add (b o k : Nat) : Addr.add ⟨b, o, none⟩ k = ⟨b, o + k, none⟩ := by
  unfold Addr.add
  split
  · subst k; rfl
  · rfl
theorem QV_fieldAddr {s f : Nat} {x : Operand} {n o off sz : Nat} {ag : Bool} [hf : FldOk E.P s f off ag sz] (hx : ev tm x = .ptr n o) : QV E bl tm ⟨d, .fieldAddr s x f, ty, pos, af, gd⟩ (.ptr n (o + off)) [] [] :=
  QV_pure fun g w ρ hop => by
    have h1 := hop x (by simp [Op.operands])
    rw [hx] at h1
    simp only [rep] at h1
    obtain ⟨b, h1, h2⟩ := h1
    obtain ⟨fs, fd, e1, e2, rfl, e4⟩ := hf.fld
    refine ⟨.pointer (some ⟨b, o + fd.offset, none⟩), ?_, ?_⟩
    · simp [execOp, h2, Instr.fieldAt, run_underlying e1, e2, Instr.sureAddr, run_fieldPlace e4 hf.pos, addr_add]
    · simp only [rep]; exact ⟨b, h1, rfl⟩
theorem QV_fieldAddrE {s f : Nat} {x : Operand} {cs : List AV} {off sz : Nat} {ag : Bool} [hf : FldOk E.P s f off ag sz] (hx : ev tm x = .eptr cs) : QV E bl tm ⟨d, .fieldAddr s x f, ty, pos, af, gd⟩ (.eptr (cs.drop off)) [] [] :=
  QV_pure fun g w ρ hop => by
    have h1 := hop x (by simp [Op.operands])
    rw [hx] at h1
    simp only [rep] at h1
    obtain ⟨b, o, h1, h2⟩ := h1
    obtain ⟨fs, fd, e1, e2, rfl, e4⟩ := hf.fld
    refine ⟨.pointer (some ⟨b, o + fd.offset, none⟩), ?_, ?_⟩
    · simp [execOp, h1, Instr.fieldAt, run_underlying e1, e2, Instr.sureAddr, run_fieldPlace e4 hf.pos, addr_add]
    · simp only [rep]; exact ⟨b, _, rfl, dcells_drop h2⟩
theorem QV_extract {x : Operand} {xs : List AV} {i : Nat} {v : AV} (hx : ev tm x = .tup xs) (h : xs[i]? = some v) : QV E bl tm ⟨d, .extract x i, ty, pos, af, gd⟩ v [] [] :=
  QV_pure fun g w ρ hop => by
    have h1 := hop x (by simp [Op.operands])
    rw [hx] at h1
    simp only [rep] at h1
    obtain ⟨arr, h1, h2⟩ := h1
    obtain ⟨y, hy, hr⟩ := reps_get h2 h
    have hy' : arr[i]? = some y := by simpa using hy
    exact ⟨y, by simp [execOp, h1, Instr.extract, hy'], hr⟩

def lookB : List (Nat × List AV) → Nat → Option (List AV)
  | [], _ => none
  | (k, cs) :: r, n => bif Nat.beq k n then some cs else lookB r n
theorem lookB_mem : ∀ {bl : List (Nat × List AV)} {n : Nat} {cs : List AV}, lookB bl n = some cs → (n, cs) ∈ bl
  | [], n, cs, h => by simp [lookB] at h
  | (k, c) :: r, n, cs, h => by
    unfold lookB at h
    cases hk : Nat.beq k n
    · rw [hk] at h; simp [lookB_mem h]
    · rw [hk] at h
      have : k = n := Nat.eq_of_beq_eq_true hk
      simp only [cond_true, Option.some.injEq] at h
      subst h; subst this; simp

def aload (ag : Bool) (sz : Nat) (cs : List AV) : Option AV := bif ag then (bif Nat.ble sz cs.length then some (.agg (cs.take sz)) else none) else cs.head?

theorem run_loadVar {P : Program} {w : World} {t : Nat} {ag : Bool} {sz : Nat} (ht : TyOk P t ag sz) {b o : Nat} {ys : List Value} (hy : ∀ j z, ys[j]? = some z → w.cell? ⟨b, o + j, none⟩ = some z) (hl : sz ≤ ys.length) (h1 : ag = false → ∃ y, ys[0]? = some y) :
    (loadVar t ⟨b, o, none⟩).run P w = .ok (bif ag then .agg (ys.take sz).toArray else ys.getD 0 undef) w := by
  cases ag
  · obtain ⟨y, h0⟩ := h1 rfl
    have := hy 0 y h0
    rw [Nat.add_zero] at this
    simp [loadVar, ht.ag, run_load, this, List.getD, h0]
  · have hlen : (ys.take sz).length = sz := by simp; omega
    have := run_loadCells_list (P := P) w ⟨b, o, none⟩ (ys.take sz) (fun j v hj => by
      rw [addr_add]
      exact hy j v (by rw [List.getElem?_take] at hj; split at hj <;> first | exact hj | cases hj))
    rw [hlen] at this
    simp [loadVar, ht.ag, ht.sz, this]

theorem QV_load {t : Nat} {x : Operand} {n o sz : Nat} {ag : Bool} {cs : List AV} {v : AV} [ht : TyOk E.P t ag sz] (hx : ev tm x = .ptr n o) (hb : lookB bl n = some cs) (h : aload ag sz (cs.drop o) = some v) : QV E bl tm ⟨d, .load t x, ty, pos, af, gd⟩ v [] [] := by
  intro g w ρ bl' ow' hm hbl _ _ hop
  have h1 := hop x (by simp [Op.operands])
  rw [hx] at h1
  simp only [rep] at h1
  obtain ⟨b, h1, h2⟩ := h1
  obtain ⟨b', arr, e1, e2, e3, e4⟩ := hm.blk n cs (hbl _ (lookB_mem hb))
  have : b' = b := by rw [h1] at e1; exact (Option.some.inj e1).symm
  subst this
  have hd := reps_drop (k := o) e3
  have hc : ∀ j z, (arr.toList.drop o)[j]? = some z → w.cell? ⟨b', o + j, none⟩ = some z := fun j z hj => by
    rw [cell_of_heap e2]; simpa [List.getElem?_drop] using hj
  have hlen := reps_length hd
  cases ag
  · simp only [aload, cond_false, List.head?_eq_getElem?] at h
    obtain ⟨y, hy, hr⟩ := reps_get hd h
    have hc0 := hc 0 y hy
    rw [Nat.add_zero] at hc0
    have hrun : (execOp ρ ⟨d, .load t x, ty, pos, af, gd⟩).run E.P w = .ok (.value y) w := by
      simp [execOp, h2, Instr.loadAt, Instr.sureAddr, loadVar, ht.ag, run_load, hc0]
    rw [hrun]
    exact ⟨g, Goes.refl g w, hm, hr⟩
  · simp only [aload, cond_true] at h
    cases hle : Nat.ble sz (cs.drop o).length
    · rw [hle] at h; cases h
    · rw [hle] at h
      simp only [cond_true, Option.some.injEq] at h
      subst h
      have hle' : sz ≤ (arr.toList.drop o).length := by rw [hlen]; exact Nat.le_of_ble_eq_true hle
      have hrun : (execOp ρ ⟨d, .load t x, ty, pos, af, gd⟩).run E.P w = .ok (.value (.agg ((arr.toList.drop o).take sz).toArray)) w := by
        have := run_loadVar (P := E.P) (w := w) ht hc hle' (fun h => by cases h)
        simp only [execOp, h2, Instr.loadAt, Instr.sureAddr]
        simp [this]
      rw [hrun]
      refine ⟨g, Goes.refl g w, hm, ?_⟩
      simp only [rep]
      exact ⟨_, rfl, reps_take hd⟩
theorem QV_loadE {t : Nat} {x : Operand} {sz : Nat} {ag : Bool} {cs : List AV} {v : AV} [ht : TyOk E.P t ag sz] (hx : ev tm x = .eptr cs) (h : aload ag sz cs = some v) : QV E bl tm ⟨d, .load t x, ty, pos, af, gd⟩ v [] [] :=
  QV_pure fun g w ρ hop => by
    have h1 := hop x (by simp [Op.operands])
    rw [hx] at h1
    simp only [rep] at h1
    obtain ⟨b, o, h1, h2⟩ := h1
    obtain ⟨zs, g1, g2, g3⟩ := dcells_list h2
    have hr := reps_of_dreps (g := g) g1
    cases ag
    · simp only [aload, cond_false, List.head?_eq_getElem?] at h
      obtain ⟨y, hy, hr⟩ := reps_get hr h
      have hc0 := (g3 0 y hy).1
      rw [Nat.add_zero] at hc0
      exact ⟨y, by simp [execOp, h1, Instr.loadAt, Instr.sureAddr, loadVar, ht.ag, run_load, hc0], hr⟩
    · simp only [aload, cond_true] at h
      cases hle : Nat.ble sz cs.length
      · rw [hle] at h; cases h
      · rw [hle] at h
        simp only [cond_true, Option.some.injEq] at h
        subst h
        have hle' : sz ≤ zs.length := by rw [g2]; exact Nat.le_of_ble_eq_true hle
        refine ⟨.agg (zs.take sz).toArray, ?_, ?_⟩
        · have := run_loadVar (P := E.P) (w := w) ht (fun j z hj => (g3 j z hj).1) hle' (fun h => by cases h)
          simp only [execOp, h1, Instr.loadAt, Instr.sureAddr]
          simp [this]
        · simp only [rep]
          exact ⟨_, rfl, reps_take hr⟩

def acells : AV → List AV
  | .agg cs => cs
  | x => [x]
theorem reps_cells {g : Gh} {w : World} {x : AV} {y : Value} (h : rep g w x y) (hn : x ≠ .top) (hv : ∀ a, x ≠ .v (.agg a)) : reps g w (acells x) y.cells.toList := by
  cases x with
  | agg cs =>
    simp only [rep] at h
    obtain ⟨a, rfl, h⟩ := h
    exact h
  | top => exact absurd rfl hn
  | v x =>
    have h' := h
    simp only [rep] at h'
    subst h'
    have : y.cells = #[y] := by
      cases y <;> first | rfl | (exact absurd rfl (hv _))
    rw [this]
    simp only [acells, reps]
    exact ⟨y, [], rfl, h, rfl⟩
  | _ =>
    have hc : y.cells = #[y] := by
      simp only [rep] at h
      first
        | (obtain ⟨a, rfl, _⟩ := h; rfl)
        | (simp only [drep] at h; obtain ⟨A, c, rfl, _⟩ := h; rfl)
        | (obtain ⟨h1, h2, xs, h3, _⟩ := h
           rcases h3.2 with ⟨rfl, _⟩ | ⟨_, _, _, rfl, _⟩ <;> rfl)
        | (obtain ⟨b, _, rfl⟩ := h; rfl)
        | (obtain ⟨b, o, rfl, _⟩ := h; rfl)
        | (obtain ⟨a, b, rfl, _⟩ := h; rfl)
        | (obtain ⟨b, _, _, _, rfl, _⟩ := h; rfl)
    rw [hc]
    simp only [acells, reps]
    exact ⟨y, [], rfl, h, rfl⟩
def isC : AV → Bool
  | .top => false
  | .v (.agg _) => false
  | _ => true
theorem reps_cellsC {g : Gh} {w : World} {x : AV} {y : Value} (h : rep g w x y) (hc : isC x = true) : reps g w (acells x) y.cells.toList :=
  reps_cells h (fun e => by subst e; simp [isC] at hc) (fun a e => by subst e; simp [isC] at hc)
theorem QV_newRow {o : Oper} {n : Nat} {cs : List AV} (h : ∀ (g : Gh) (w : World) (ρ : Operand → Value), (∀ x ∈ o.op.operands, rep g w (ev tm x) (ρ x)) →
      ∃ arr T, (execOp ρ o).run E.P w = .ok (.value (.pointer (some ⟨w.heap.size, 0, none⟩))) (w.alloc (.cells arr T)) ∧ reps g w cs arr.toList) : QV E bl tm o (.ptr n 0) [(n, cs)] [] := by
  intro g w ρ bl' ow' hm hbl hf _ hop
  obtain ⟨arr, T, hrun, hr⟩ := h g w ρ hop
  rw [hrun]
  obtain ⟨g', h1, h2, h3, _⟩ := hm.newBlock n (fun q hq => hf (n, cs) (by simp) q hq) cs arr T hr
  refine ⟨g', h1, h2, ?_⟩
  simp only [rep]
  exact ⟨_, h3, rfl⟩
theorem QV_box {t : Nat} {x : Operand} {v : AV} (n : Nat) (hx : ev tm x = v) (hc : isC v = true) : QV E bl tm ⟨d, .box t x, ty, pos, af, gd⟩ (.ptr n 0) [(n, acells v)] [] :=
  QV_newRow fun g w ρ hop => by
    have h1 := hop x (by simp [Op.operands])
    rw [hx] at h1
    exact ⟨(ρ x).cells, t, by simp [execOp, Instr.box, newVar, newRow], reps_cellsC h1 hc⟩
theorem QV_alloc {t : Nat} {z : Value} (n : Nat) [hz : ZeroOk E.P t z] : QV E bl tm ⟨d, .alloc t, ty, pos, af, gd⟩ (.ptr n 0) [(n, z.cells.toList.map AV.v)] [] :=
  QV_newRow fun g w ρ hop => by
    refine ⟨z.cells, t, by simp [execOp, Instr.alloc, hz.zero, newVar, newRow], ?_⟩
    have : ∀ l : List Value, reps g w (l.map AV.v) l := by
      intro l
      induction l with
      | nil => simp [reps]
      | cons x l ih => simp only [List.map_cons, reps]; exact ⟨x, l, rfl, by simp [rep], ih⟩
    exact this _

def arows : AV → Option (Nat × List (List AV))
  | .sl e rows => some (e, rows)
  | .own _ _ e rows => some (e, rows)
  | _ => none
theorem drep_arows {g : Gh} {w : World} {x : AV} {y : Value} {e : Nat} {rows : List (List AV)} (h : rep g w x y) (hr : arows x = some (e, rows)) : drep g.I w (.sl e rows) y := by
  cases x <;> simp only [arows, Option.some.injEq, Prod.mk.injEq, reduceCtorEq] at hr
  · obtain ⟨rfl, rfl⟩ := hr
    simpa only [rep] using h
  · obtain ⟨rfl, rfl⟩ := hr
    simp only [rep] at h
    exact drep_of_own h
theorem QV_indexAddr {t : Nat} {x ix : Operand} {xv : AV} {T e by_ : Nat} {rows : List (List AV)} {k : IntKind} {i : Int} {j : Nat} {r : List AV} [hs : SlOk E.P t T e by_] (hx : ev tm x = xv) (hr : arows xv = some (e, rows))
    (hi : ev tm ix = .v (.int k i)) (hj : i = j) (hrow : rows[j]? = some r) : QV E bl tm ⟨d, .indexAddr t x ix, ty, pos, af, gd⟩ (.eptr r) [] [] :=
  QV_pure fun g w ρ hop => by
    have h1 := hop x (by simp [Op.operands])
    have h2 := hop ix (by simp [Op.operands])
    rw [hx] at h1; rw [hi] at h2
    have h1' := drep_arows h1 hr
    simp only [rep, drep] at h2 h1'
    subst hj
    obtain ⟨A, c, h3, h4, _⟩ := h1'
    have hlt : j < rows.length := (List.getElem?_eq_some_iff.1 hrow).1
    rcases h4 with h4 | ⟨b, o, rfl, h4⟩
    · simp [h4] at hlt
    · obtain ⟨in0, z, hi1, hi2, hi3, hi4, hi5⟩ := hs.info
      have hsz : (sizeOf T).run E.P w = .ok e w := by simp [sizeOf, typeInfo, hi1, hi3]
      refine ⟨.pointer (some ⟨b, o + j * e, none⟩), ?_, ?_⟩
      · simp [execOp, h2, h3, Instr.indexAt, asIntOf, run_underlying hs.und, hsz, addr_add, hlt]
      · simp only [rep]
        exact ⟨b, _, rfl, (drows_get h4 hrow).2⟩
theorem QV_len {t : Nat} {x : Operand} {xv : AV} {T e e' by_ : Nat} {rows : List (List AV)} [hs : SlOk E.P t T e' by_] (hx : ev tm x = xv) (hr : arows xv = some (e, rows)) :
    QV E bl tm ⟨d, .call ⟨.builtin .len, #[x], #[t]⟩, ty, pos, af, gd⟩ (.v (.int .i64 rows.length)) [] [] :=
  QV_pure fun g w ρ hop => by
    have h1 := hop x (by simp [Op.operands, Call.operands])
    rw [hx] at h1
    have h1' := drep_arows h1 hr
    simp only [drep] at h1'
    obtain ⟨A, c, h3, h4, _⟩ := h1'
    exact ⟨_, by simp [execOp, resolve, invoke, builtin, Builtin.len_, h3, run_underlying hs.und, goInt]; rfl, by simp only [rep]⟩
theorem QV_lenNil {t : Nat} {x : Operand} {T e by_ n c : Nat} {A : Option Addr} [hs : SlOk E.P t T e by_] (hx : ev tm x = .v (.slice A n c)) :
    QV E bl tm ⟨d, .call ⟨.builtin .len, #[x], #[t]⟩, ty, pos, af, gd⟩ (.v (.int .i64 n)) [] [] :=
  QV_pure fun g w ρ hop => by
    have h1 := hop x (by simp [Op.operands, Call.operands])
    rw [hx] at h1
    simp only [rep] at h1
    exact ⟨_, by simp [execOp, resolve, invoke, builtin, Builtin.len_, h1, run_underlying hs.und, goInt]; rfl, by simp only [rep]⟩
theorem QV_min {x y : Operand} {ts : Array TypeId} {k : IntKind} {a b : Int} (hx : ev tm x = .v (.int k a)) (hy : ev tm y = .v (.int k b)) :
    QV E bl tm ⟨d, .call ⟨.builtin .min, #[x, y], ts⟩, ty, pos, af, gd⟩ (.v (.int k (min a b))) [] [] :=
  QV_pure fun g w ρ hop => by
    have h1 := hop x (by simp [Op.operands, Call.operands])
    have h2 := hop y (by simp [Op.operands, Call.operands])
    rw [hx] at h1; rw [hy] at h2
    simp only [rep] at h1 h2
    refine ⟨.int k (min a b), ?_, by simp only [rep]⟩
    have : (if b < a then b else a) = min a b := by omega
    simp [execOp, resolve, invoke, builtin, Builtin.min_, Builtin.min2, h1, h2, this]
theorem QV_max {x y : Operand} {ts : Array TypeId} {k : IntKind} {a b : Int} (hx : ev tm x = .v (.int k a)) (hy : ev tm y = .v (.int k b)) :
    QV E bl tm ⟨d, .call ⟨.builtin .max, #[x, y], ts⟩, ty, pos, af, gd⟩ (.v (.int k (max a b))) [] [] :=
  QV_pure fun g w ρ hop => by
    have h1 := hop x (by simp [Op.operands, Call.operands])
    have h2 := hop y (by simp [Op.operands, Call.operands])
    rw [hx] at h1; rw [hy] at h2
    simp only [rep] at h1 h2
    refine ⟨.int k (max a b), ?_, by simp only [rep]⟩
    have : (if a < b then b else a) = max a b := by omega
    simp [execOp, resolve, invoke, builtin, Builtin.max_, Builtin.max2, h1, h2, this]
theorem QV_nilCheck {x : Operand} {v : AV} (hx : ev tm x = v) (hv : match v with | .ptr .. => True | .eptr _ => True | .fn (.func _) _ _ => True | _ => False) : QV E bl tm ⟨d, .nilCheck x, ty, pos, af, gd⟩ v [] [] :=
  QV_pure fun g w ρ hop => by
    have h1 := hop x (by simp [Op.operands])
    rw [hx] at h1
    refine ⟨ρ x, ?_, h1⟩
    cases v with
    | ptr n o =>
      simp only [rep] at h1
      obtain ⟨b, _, h2⟩ := h1
      simp [execOp, h2]
    | eptr cs =>
      simp only [rep] at h1
      obtain ⟨b, o, h2, _⟩ := h1
      simp [execOp, h2]
    | fn f fs cs =>
      simp only [rep] at h1
      obtain ⟨a, b, h2, _⟩ := h1
      cases f <;> simp at hv
      simp [execOp, h2]
    | _ => simp at hv
theorem QV_nilCheckF {x : Operand} {f : FuncId} {us vs : Array Value} (hx : ev tm x = .v (.func (.func f) us vs)) : QV E bl tm ⟨d, .nilCheck x, ty, pos, af, gd⟩ (.v (.func (.func f) us vs)) [] [] :=
  QV_pure fun g w ρ hop => by
    have h1 := hop x (by simp [Op.operands])
    rw [hx] at h1
    simp only [rep] at h1
    exact ⟨ρ x, by simp [execOp, h1], by simp only [rep]; exact h1⟩
theorem reps_map {g : Gh} {w : World} {ρ : Operand → Value} : ∀ (xs : List Operand), (∀ x ∈ xs, rep g w (ev tm x) (ρ x)) → reps g w (xs.map (ev tm)) (xs.map ρ)
  | [], _ => by simp [reps]
  | x :: xs, h => by
    simp only [List.map_cons, reps]
    exact ⟨_, _, rfl, h x (by simp), reps_map xs (fun y hy => h y (by simp [hy]))⟩
theorem QV_makeFunc {f : Fn} {fs cs : Array Operand} : QV E bl tm ⟨d, .makeFunc f fs cs, ty, pos, af, gd⟩ (.fn f (fs.toList.map (ev tm)) (cs.toList.map (ev tm))) [] [] :=
  QV_pure fun g w ρ hop => by
    refine ⟨.func f (fs.map ρ) (cs.map ρ), by simp [execOp, Instr.makeFunc], ?_⟩
    simp only [rep]
    refine ⟨_, _, rfl, ?_, ?_⟩
    · rw [Array.toList_map]; exact reps_map _ fun x hx => hop x (by simp [Op.operands] at hx ⊢; exact .inl hx)
    · rw [Array.toList_map]; exact reps_map _ fun x hx => hop x (by simp [Op.operands] at hx ⊢; exact .inr hx)
theorem QV_conv {s t : TypeId} {x : Operand} {k k' : IntKind} {a : Int} (hs : (E.P.underlying s).isSome = true) (ht : E.P.underlying t = some (.int k')) (hx : ev tm x = .v (.int k a)) :
    QV E bl tm ⟨d, .convert s t x, ty, pos, af, gd⟩ (.v (.int k' (k'.wrap a))) [] [] :=
  QV_pure fun g w ρ hop => by
    have h1 := hop x (by simp [Op.operands])
    rw [hx] at h1
    simp only [rep] at h1
    obtain ⟨u, hu⟩ := Option.isSome_iff_exists.1 hs
    refine ⟨.int k' (k'.wrap a), ?_, by simp only [rep]⟩
    simp [execOp, h1, convert, run_underlying hu, run_underlying ht, Conv.intToInt]
end
end Go.Eng

namespace Go.Eng
open Go

structure St where
  tm : List (Nat × AV)
  bl : List (Nat × List AV)
  ow : List Nat

structure Inv (E : En) (g : Gh) (s : St) (a : Act) (w : World) : Prop where
  mem : Mem E g s.bl s.ow w
  tm : ∀ t, rep g w (look s.tm t) (a.tmps.getD t undef)
  de : a.defers = E.df
  sz : a.tmps.size = E.nt

def post (E : En) (Q : Exit → St → Prop) : Exit → Act → World → Prop := fun e a w => ∃ g s, Q e s ∧ Inv E g s a w

def St.app (s : St) (d : Option Tmp) (v : AV) (nb : List (Nat × List AV)) (no : List Nat) : St :=
  ⟨match d with | some d => (d, v) :: s.tm | none => s.tm, nb ++ s.bl, no ++ s.ow⟩

theorem look_put {g : Gh} {w : World} {E : En} {a : Act} {s : St} {d : Option Tmp} {v : AV} {y : Value} (nb : List (Nat × List AV)) (no : List Nat) (hd : ∀ k, d = some k → k < E.nt) (hsz : a.tmps.size = E.nt)
    (ht : ∀ t, rep g w (look s.tm t) (a.tmps.getD t undef)) (hv : rep g w v y) : ∀ t, rep g w (look (s.app d v nb no).tm t) ((a.put d y).tmps.getD t undef) := by
  intro t
  cases d with
  | none => exact ht t
  | some d =>
    have hdl : d < a.tmps.size := by rw [hsz]; exact hd d rfl
    simp only [St.app, look, Act.put]
    cases hb : Nat.beq d t
    · have hne : d ≠ t := fun e => by subst e; simp at hb
      simp only [cond_false]
      have : (a.tmps.setIfInBounds d y).getD t undef = a.tmps.getD t undef := by
        simp [Array.getElem?_setIfInBounds_ne hne]
      rw [this]; exact ht t
    · have he : d = t := Nat.eq_of_beq_eq_true hb
      subst he
      simp only [cond_true]
      have : (a.tmps.setIfInBounds d y).getD d undef = y := by simp [hdl]
      rw [this]; exact hv

theorem Inv.app {E : En} {g g' : Gh} {s : St} {a : Act} {w w' : World} (h : Inv E g s a w) {d : Option Tmp} {v : AV} {y : Value} {nb : List (Nat × List AV)} {no : List Nat} (hd : ∀ k, d = some k → k < E.nt)
    (hg : Goes g w g' w') (hm : Mem E g' (nb ++ s.bl) (no ++ s.ow) w') (hv : rep g' w' v y) : Inv E g' (s.app d v nb no) (a.put d y) w' :=
  ⟨hm, look_put nb no hd h.sz (fun t => rep_goes hg (h.tm t)) hv, by cases d <;> exact h.de, by cases d <;> simp [Act.put, h.sz]⟩

def WL (E : En) (ops : Array Oper) (l : List Oper) (Q : Exit → St → Prop) (s : St) : Prop := ∀ g a w, Inv E g s a w → wpListIn (fo E.rd) 0 E.P ops (post E Q) l a w
def W (E : En) (c : Code) (Q : Exit → St → Prop) (s : St) : Prop := ∀ g a w, Inv E g s a w → c.wpIn (fo E.rd) 0 E.P (post E Q) a w

theorem WL_nil {E : En} {ops : Array Oper} {Q : Exit → St → Prop} {s : St} (h : Q .normal s) : WL E ops [] Q s := fun g _ _ hi => ⟨g, s, h, hi⟩

def TV (E : En) (o : Oper) (s s' : St) : Prop := ∀ g a w, Inv E g s a w → ∀ (next : Act → World → Prop) (Q : Exit → Act → World → Prop), (∀ g' a' w', Inv E g' s' a' w' → next a' w') → o.wpIn (fo E.rd) 0 E.P a w next Q

def freshB (nb : List (Nat × List AV)) (no : List Nat) (s : St) : Bool :=
  nb.all (fun p => s.bl.all fun q => !(Nat.beq p.1 q.1)) && no.all (fun n => s.ow.all fun k => !(Nat.beq n k)) && Nat.ble nb.length 1 && Nat.ble no.length 1
theorem freshB_spec {nb : List (Nat × List AV)} {no : List Nat} {s : St} (h : freshB nb no s = true) : (∀ p ∈ nb, ∀ q ∈ s.bl, p.1 ≠ q.1) ∧ ∀ n ∈ no, n ∉ s.ow := by
  simp only [freshB, Bool.and_eq_true, List.all_eq_true, Bool.not_eq_true'] at h
  refine ⟨fun p hp q hq e => ?_, fun n hn hk => ?_⟩
  · have := h.1.1.1 p hp q hq
    rw [e] at this; simp at this
  · have := h.1.1.2 n hn n hk
    simp at this
def dstB (nt : Nat) (o : Oper) : Bool := match o.dst with | some d => Nat.blt d nt | none => true
theorem dstB_spec {nt : Nat} {o : Oper} (h : dstB nt o = true) : ∀ k, o.dst = some k → k < nt := fun k hk => by
  simp only [dstB, hk] at h
  exact Nat.le_of_ble_eq_true h

theorem TV_of_QV {E : En} {o : Oper} {s : St} {v : AV} {nb : List (Nat × List AV)} {no : List Nat} (h : QV E s.bl s.tm o v nb no) (hf : freshB nb no s = true) (hd : dstB E.nt o = true) : TV E o s (s.app o.dst v nb no) := by
  intro g a w hi next Q hn
  obtain ⟨f1, f2⟩ := freshB_spec hf
  refine wp_of_uponQ (h g w a.eval s.bl s.ow hi.mem (fun p hp => hp) f1 f2 (fun x _ => rep_ev hi.tm x)) fun y w' hK => ?_
  obtain ⟨g', h1, h2, h3⟩ := hK
  exact hn _ _ _ (hi.app (dstB_spec hd) h1 h2 h3)

theorem WL_t {E : En} {ops : Array Oper} {o : Oper} {rest : List Oper} {Q : Exit → St → Prop} {s s' : St} (hg : o.guard = none) (h : TV E o s s') (hk : WL E ops rest Q s') : WL E ops (o :: rest) Q s := by
  intro g a w hi
  unfold wpListIn
  have : Region.wanted o (yielded ops a.tmps) = true := by simp [Region.wanted, hg]
  rw [this]
  exact (h g a w hi _ _ fun g' a' w' hi' => hk g' a' w' hi')
theorem WL_q {E : En} {ops : Array Oper} {o : Oper} {rest : List Oper} {Q : Exit → St → Prop} {s : St} {v : AV} {nb : List (Nat × List AV)} {no : List Nat} (h : QV E s.bl s.tm o v nb no) (hg : o.guard = none) (hd : dstB E.nt o = true) (hf : freshB nb no s = true)
    (hk : WL E ops rest Q (s.app o.dst v nb no)) : WL E ops (o :: rest) Q s := WL_t hg (TV_of_QV h hf hd) hk

theorem yielded_of {ops : Array Oper} {tmps : Array Value} {j d : Nat} {b : Bool} (hj : (ops[j]?).bind (·.dst) = some d) (h : tmps.getD d undef = .bool b) : yielded ops tmps j = some b := by
  unfold yielded
  rw [hj]
  cases hd : tmps[d]? with
  | none => simp [hd, undef] at h
  | some y => simp [hd] at h; subst h; simp [hd]

theorem yielded_un {ops : Array Oper} {tmps : Array Value} {j d : Nat} (hj : (ops[j]?).bind (·.dst) = some d) (h : tmps.getD d undef = undef) : yielded ops tmps j = none := by
  unfold yielded
  rw [hj]
  cases hd : tmps[d]? with
  | none => simp [hd]
  | some y => simp [hd] at h; subst h; simp [hd, undef]
theorem WL_gu {E : En} {ops : Array Oper} {o : Oper} {rest : List Oper} {Q : Exit → St → Prop} {s : St} {j d : Nat} {b : Bool} (hg : o.guard = some (j, b)) (hj : (ops[j]?).bind (·.dst) = some d) (hb : look s.tm d = .v undef)
    (hd : dstB E.nt o = true) (hk : WL E ops rest Q (s.app o.dst (.v undef) [] [])) : WL E ops (o :: rest) Q s := by
  intro g a w hi
  unfold wpListIn
  have h1 := hi.tm d
  rw [hb] at h1
  simp only [rep] at h1
  have : Region.wanted o (yielded ops a.tmps) = false := by simp [Region.wanted, hg, yielded_un hj h1]
  rw [this]
  exact ⟨fun _ _ => trivial, hk g _ w (hi.app (dstB_spec hd) (Goes.refl g w) hi.mem (by simp [rep]))⟩
theorem WL_gy {E : En} {ops : Array Oper} {o : Oper} {rest : List Oper} {Q : Exit → St → Prop} {s : St} {v : AV} {nb : List (Nat × List AV)} {no : List Nat} {j d : Nat} {b : Bool} (h : QV E s.bl s.tm o v nb no) (hg : o.guard = some (j, b)) (hj : (ops[j]?).bind (·.dst) = some d) (hb : look s.tm d = .v (.bool b))
    (hd : dstB E.nt o = true) (hf : freshB nb no s = true) (hk : WL E ops rest Q (s.app o.dst v nb no)) : WL E ops (o :: rest) Q s := by
  intro g a w hi
  unfold wpListIn
  have h1 := hi.tm d
  rw [hb] at h1
  simp only [rep] at h1
  have : Region.wanted o (yielded ops a.tmps) = true := by simp [Region.wanted, hg, yielded_of hj h1]
  rw [this]
  exact (TV_of_QV h hf hd g a w hi _ _ fun g' a' w' hi' => hk g' a' w' hi')
theorem WL_gn {E : En} {ops : Array Oper} {o : Oper} {rest : List Oper} {Q : Exit → St → Prop} {s : St} {j d : Nat} {b c : Bool} (hg : o.guard = some (j, c)) (hj : (ops[j]?).bind (·.dst) = some d) (hb : look s.tm d = .v (.bool b)) (hc : c = !b)
    (hd : dstB E.nt o = true) (hk : WL E ops rest Q (s.app o.dst (.v undef) [] [])) : WL E ops (o :: rest) Q s := by
  intro g a w hi
  unfold wpListIn
  have h1 := hi.tm d
  rw [hb] at h1
  simp only [rep] at h1
  have : Region.wanted o (yielded ops a.tmps) = false := by subst hc; simp [Region.wanted, hg, yielded_of hj h1]
  rw [this]
  exact ⟨fun _ _ => trivial, hk g _ w (hi.app (dstB_spec hd) (Goes.refl g w) hi.mem (by simp [rep]))⟩

theorem W_region {E : En} {id : Nat} {l : List Oper} {Q : Exit → St → Prop} {s : St} (h : WL E l.toArray l Q s) : W E (.region id l.toArray false) Q s :=
  fun g a w hi => wpIn_region_list (by simpa using h g a w hi)

theorem Mem.drew {E : En} {g : Gh} {bl : List (Nat × List AV)} {ow : List Nat} {w : World} (h : Mem E g bl ow w) : Mem E g bl ow w.drew ∧ Goes g w g w.drew := by
  have hg : Goes g w g w.drew := ⟨fun _ _ h => h, fun _ _ _ => rfl, fun _ _ h => h, fun _ _ _ => rfl, fun n T e rows y hy =>
    ownRep_goes (g := g) (g' := g) (w := w) (w' := w.drew) (fun _ _ h => h) (fun _ _ _ => rfl) (fun _ h => ⟨h, rfl⟩) (fun _ _ _ _ => rfl) (fun _ _ _ _ _ h => h) hy, fun _ _ _ _ _ h => h⟩
  exact ⟨⟨⟨h.below.os, h.below.tape, h.below.output, h.below.size, h.below.block⟩, h.base, h.cell, h.mfr, h.ofr, h.minj, h.oinj, h.disj,
    fun n cs hn => let ⟨b, arr, h1, h2, h3, h4⟩ := h.blk n cs hn; ⟨b, arr, h1, h2, reps_goes hg h3, h4⟩, h.key, h.own, h.inew, h.iold, h.pin⟩, hg⟩
theorem Inv.drew {E : En} {g : Gh} {s : St} {a : Act} {w : World} (h : Inv E g s a w) : Inv E g s a w.drew :=
  ⟨h.mem.drew.1, fun t => rep_goes h.mem.drew.2 (h.tm t), h.de, h.sz⟩


structure Tr where
  d : Option Tmp
  v : AV
  nb : List (Nat × List AV)
  no : List Nat

def stS (L : Nat → Bool) : List Tr → Nat → St → St
  | [], _, s => s
  | t :: ts, i, s => stS L ts (i + 1) (bif L i then s.app t.d t.v t.nb t.no else s)

def isTop : AV → Bool
  | .top => true
  | _ => false
def QI (E : En) (tm : List (Nat × AV)) (o : Oper) (n : Nat) (cs : List AV) : Prop :=
  o.dst = none ∧ o.guard = none ∧ Operand.tmp n ∈ o.op.operands ∧ (cs.all (fun x => !isTop x) = true ∧ cs ≠ []) ∧
  ∀ (g : Gh) (w : World) (ρ : Operand → Value) (bl' : List (Nat × List AV)) (ow' : List Nat), Mem E g bl' ow' w → (∃ c, (n, c) ∈ bl') → (∀ c, (n, c) ∈ bl' → c.length = cs.length ∧ c.all isTop = true) →
    (∀ x ∈ o.op.operands, rep g w (ev tm x) (ρ x)) → UponQ E.P (fun y w' => y = undef ∧ ∃ g', Goes g w g' w' ∧ Mem E g' ((n, cs) :: bl') ow' w') ((execOp ρ o).run E.P w)
def initB (n k : Nat) (bl : List (Nat × List AV)) : Bool := bl.any (fun q => Nat.beq q.1 n) && bl.all fun q => bif Nat.beq q.1 n then Nat.beq q.2.length k && q.2.all isTop else true
theorem initB_spec {n k : Nat} {bl : List (Nat × List AV)} (h : initB n k bl = true) : (∃ c, (n, c) ∈ bl) ∧ ∀ c, (n, c) ∈ bl → c.length = k ∧ c.all isTop = true := by
  simp only [initB, Bool.and_eq_true] at h
  obtain ⟨h1, h2⟩ := h
  obtain ⟨q, hq, hb⟩ := List.any_eq_true.1 h1
  have := Nat.eq_of_beq_eq_true hb
  refine ⟨⟨q.2, by rw [← this]; exact hq⟩, fun c hc => ?_⟩
  have h3 := List.all_eq_true.1 h2 _ hc
  simp only [Nat.beq_refl, cond_true, Bool.and_eq_true] at h3
  exact ⟨Nat.eq_of_beq_eq_true h3.1, h3.2⟩
def namesB (nb : List (Nat × List AV)) (o : Oper) : Bool := nb.all fun p => match o.dst with | some d => Nat.beq d p.1 | none => false
theorem namesB_spec {nb : List (Nat × List AV)} {o : Oper} (h : namesB nb o = true) : ∀ p ∈ nb, o.dst = some p.1 := fun p hp => by
  have h1 := List.all_eq_true.1 h p hp
  cases hd : o.dst with
  | none => simp [hd] at h1
  | some d => simp only [hd] at h1; rw [Nat.eq_of_beq_eq_true h1]

def HW (E : En) (ops : Array Oper) (bl : List (Nat × List AV)) : List Oper → St → (St → Prop) → Prop
  | [], s, K => K s
  | o :: rest, s, K =>
    (∃ v nb no, QV E bl s.tm o v nb no ∧ dstB E.nt o = true ∧ (freshB nb no s = true ∧ namesB nb o = true) ∧
      (o.guard = none ∨ ∃ j d b, o.guard = some (j, b) ∧ (ops[j]?).bind (·.dst) = some d ∧ look s.tm d = .v (.bool b)) ∧ HW E ops bl rest (s.app o.dst v nb no) K) ∨
    (∃ j d b, o.guard = some (j, !b) ∧ (ops[j]?).bind (·.dst) = some d ∧ look s.tm d = .v (.bool b) ∧ dstB E.nt o = true ∧ HW E ops bl rest (s.app o.dst (.v undef) [] []) K) ∨
    (∃ n cs, QI E s.tm o n cs ∧ initB n cs.length s.bl = true ∧ HW E ops bl rest (s.app none (.v undef) [(n, cs)] []) K) ∨
    (∃ j d b, o.guard = some (j, b) ∧ (ops[j]?).bind (·.dst) = some d ∧ look s.tm d = .v undef ∧ dstB E.nt o = true ∧ HW E ops bl rest (s.app o.dst (.v undef) [] []) K)

theorem HW_nil {E : En} {ops : Array Oper} {bl : List (Nat × List AV)} {s : St} {K : St → Prop} (h : K s) : HW E ops bl [] s K := h
theorem HW_q {E : En} {ops : Array Oper} {bl : List (Nat × List AV)} {o : Oper} {rest : List Oper} {K : St → Prop} {s : St} {v : AV} {nb : List (Nat × List AV)} {no : List Nat} (h : QV E bl s.tm o v nb no) (hg : o.guard = none) (hd : dstB E.nt o = true) (hf : freshB nb no s = true) (hn : namesB nb o = true)
    (hk : HW E ops bl rest (s.app o.dst v nb no) K) : HW E ops bl (o :: rest) s K := .inl ⟨v, nb, no, h, hd, ⟨hf, hn⟩, .inl hg, hk⟩
theorem HW_gy {E : En} {ops : Array Oper} {bl : List (Nat × List AV)} {o : Oper} {rest : List Oper} {K : St → Prop} {s : St} {v : AV} {nb : List (Nat × List AV)} {no : List Nat} {j d : Nat} {b : Bool} (h : QV E bl s.tm o v nb no) (hg : o.guard = some (j, b)) (hj : (ops[j]?).bind (·.dst) = some d) (hb : look s.tm d = .v (.bool b)) (hd : dstB E.nt o = true) (hf : freshB nb no s = true) (hn : namesB nb o = true)
    (hk : HW E ops bl rest (s.app o.dst v nb no) K) : HW E ops bl (o :: rest) s K := .inl ⟨v, nb, no, h, hd, ⟨hf, hn⟩, .inr ⟨j, d, b, hg, hj, hb⟩, hk⟩
theorem HW_gn {E : En} {ops : Array Oper} {bl : List (Nat × List AV)} {o : Oper} {rest : List Oper} {K : St → Prop} {s : St} {j d : Nat} {b c : Bool} (hg : o.guard = some (j, c)) (hj : (ops[j]?).bind (·.dst) = some d) (hb : look s.tm d = .v (.bool b)) (hc : c = !b) (hd : dstB E.nt o = true)
    (hk : HW E ops bl rest (s.app o.dst (.v undef) [] []) K) : HW E ops bl (o :: rest) s K := .inr (.inl ⟨j, d, b, hc ▸ hg, hj, hb, hd, hk⟩)
theorem HW_i {E : En} {ops : Array Oper} {bl : List (Nat × List AV)} {o : Oper} {rest : List Oper} {K : St → Prop} {s : St} {n : Nat} {cs : List AV} (h : QI E s.tm o n cs) (hi : initB n cs.length s.bl = true) (hk : HW E ops bl rest (s.app none (.v undef) [(n, cs)] []) K) : HW E ops bl (o :: rest) s K := .inr (.inr (.inl ⟨n, cs, h, hi, hk⟩))
theorem HW_gu {E : En} {ops : Array Oper} {bl : List (Nat × List AV)} {o : Oper} {rest : List Oper} {K : St → Prop} {s : St} {j d : Nat} {b : Bool} (hg : o.guard = some (j, b)) (hj : (ops[j]?).bind (·.dst) = some d) (hb : look s.tm d = .v undef) (hd : dstB E.nt o = true)
    (hk : HW E ops bl rest (s.app o.dst (.v undef) [] []) K) : HW E ops bl (o :: rest) s K := .inr (.inr (.inr ⟨j, d, b, hg, hj, hb, hd, hk⟩))

structure StepOk (E : En) (ops : Array Oper) (bl : List (Nat × List AV)) (s : St) (o : Oper) (t : Tr) : Prop where
  d : t.d = o.dst
  dst : dstB E.nt o = true
  run : (QV E bl s.tm o t.v t.nb t.no ∧ (freshB t.nb t.no s = true ∧ ∀ p ∈ t.nb, o.dst = some p.1) ∧ (o.guard = none ∨ ∃ j d b, o.guard = some (j, b) ∧ (ops[j]?).bind (·.dst) = some d ∧ look s.tm d = .v (.bool b))) ∨
    (t.v = .v undef ∧ t.nb = [] ∧ t.no = [] ∧ ∃ j d b, o.guard = some (j, !b) ∧ (ops[j]?).bind (·.dst) = some d ∧ look s.tm d = .v (.bool b)) ∨
    (∃ n cs, QI E s.tm o n cs ∧ t.v = .v undef ∧ t.nb = [(n, cs)] ∧ t.no = []) ∨
    (t.v = .v undef ∧ t.nb = [] ∧ t.no = [] ∧ ∃ j d b, o.guard = some (j, b) ∧ (ops[j]?).bind (·.dst) = some d ∧ look s.tm d = .v undef)
def NewOk (o : Oper) (t : Tr) (s : St) : Prop := (freshB t.nb t.no s = true ∧ ∀ p ∈ t.nb, o.dst = some p.1) ∨ ∃ n cs, t.nb = [(n, cs)] ∧ t.no = [] ∧ (cs.all (fun x => !isTop x) = true ∧ cs ≠ []) ∧ Operand.tmp n ∈ o.op.operands ∧ initB n cs.length s.bl = true

theorem HW_trace {E : En} {ops : Array Oper} {bl : List (Nat × List AV)} {K : St → Prop} : ∀ (l : List Oper) (s : St), HW E ops bl l s K →
    ∃ T : List Tr, T.length = l.length ∧ K (stS (fun _ => true) T 0 s) ∧
      (∀ i o t, l[i]? = some o → T[i]? = some t → StepOk E ops bl (stS (fun j => decide (j < i)) T 0 s) o t ∧ NewOk o t (stS (fun j => decide (j < i)) T 0 s))
  | [], s, h => ⟨[], rfl, h, fun i o t hi => by simp at hi⟩
  | o :: rest, s, h => by
    have shift : ∀ (L : Nat → Bool) (T : List Tr) (i : Nat) (s : St), stS L T (i + 1) s = stS (fun j => L (j + 1)) T i s := by
      intro L T
      induction T with
      | nil => intro i s; rfl
      | cons t T ih => intro i s; simp only [stS]; exact ih (i + 1) _
    have zero : ∀ (T : List Tr) (i : Nat) (s : St), stS (fun _ => false) T i s = s := by
      intro T
      induction T with
      | nil => intro i s; rfl
      | cons t T ih => intro i s; simp only [stS, cond_false]; exact ih _ s
    have go : ∀ (t : Tr), StepOk E ops bl s o t → NewOk o t s → HW E ops bl rest (s.app t.d t.v t.nb t.no) K →
        ∃ T : List Tr, T.length = (o :: rest).length ∧ K (stS (fun _ => true) T 0 s) ∧
      (∀ i o' t, (o :: rest)[i]? = some o' → T[i]? = some t → StepOk E ops bl (stS (fun j => decide (j < i)) T 0 s) o' t ∧ NewOk o' t (stS (fun j => decide (j < i)) T 0 s)) := by
      intro t hs hfr hk
      obtain ⟨T, h1, h2, h3⟩ := HW_trace rest _ hk
      refine ⟨t :: T, by simp [h1], ?_, fun i o' t' hi ht => ?_⟩
      · simp only [stS, cond_true]; rw [shift]; exact h2
      · cases i with
        | zero =>
          simp only [List.getElem?_cons_zero, Option.some.injEq] at hi ht
          subst hi; subst ht
          have e : stS (fun j => decide (j < 0)) (t :: T) 0 s = s := by
            simp only [stS, Nat.not_lt_zero, decide_false, cond_false]; exact zero _ _ _
          rw [e]; exact ⟨hs, hfr⟩
        | succ i =>
          have := h3 i o' t' (by simpa using hi) (by simpa using ht)
          simp only [stS, Nat.zero_lt_succ, decide_true, cond_true]
          rw [shift]
          simpa [Nat.add_lt_add_iff_right] using this
    rcases h with ⟨v, nb, no, h1, h2, h3, h4, h5⟩ | ⟨j, d, b, h1, h2, h3, h4, h5⟩ | ⟨n, cs, h1, h2, h3⟩ | ⟨j, d, b, h1, h2, h3, h4, h5⟩
    · exact go ⟨o.dst, v, nb, no⟩ ⟨rfl, h2, .inl ⟨h1, ⟨h3.1, namesB_spec h3.2⟩, h4⟩⟩ (.inl ⟨h3.1, namesB_spec h3.2⟩) h5
    · exact go ⟨o.dst, .v undef, [], []⟩ ⟨rfl, h4, .inr (.inl ⟨rfl, rfl, rfl, j, d, b, h1, h2, h3⟩)⟩ (.inl ⟨by simp [freshB], by simp⟩) h5
    · exact go ⟨none, .v undef, [(n, cs)], []⟩ ⟨h1.1.symm, by simp [dstB, h1.1], .inr (.inr (.inl ⟨n, cs, h1, rfl, rfl, rfl⟩))⟩ (.inr ⟨n, cs, rfl, rfl, h1.2.2.2.1, h1.2.2.1, h2⟩) h3
    · exact go ⟨o.dst, .v undef, [], []⟩ ⟨rfl, h4, .inr (.inr (.inr ⟨rfl, rfl, rfl, j, d, b, h1, h2, h3⟩))⟩ (.inl ⟨by simp [freshB], by simp⟩) h5

theorem look_stS {L L' : Nat → Bool} {t : Nat} : ∀ (T : List Tr) (i : Nat) (s s' : St), look s.tm t = look s'.tm t → (∀ j tr, T[j]? = some tr → tr.d = some t → L (i + j) = L' (i + j)) → look (stS L T i s).tm t = look (stS L' T i s').tm t
  | [], _, _, _, h, _ => h
  | tr :: T, i, s, s', h, hL => by
    simp only [stS]
    refine look_stS T (i + 1) _ _ ?_ fun j tr' hj hd => by
      have := hL (j + 1) tr' (by simpa using hj) hd
      rwa [show i + (j + 1) = i + 1 + j by omega] at this
    by_cases hd : tr.d = some t
    · have := hL 0 tr rfl hd
      rw [Nat.add_zero] at this
      rw [this]
      cases L' i
      · exact h
      · simp only [cond_true, St.app, hd, look]; simp
    · have key : ∀ s : St, look (bif L i then s.app tr.d tr.v tr.nb tr.no else s).tm t = look s.tm t := fun s => by
        cases L i
        · rfl
        · simp only [cond_true, St.app]
          cases hdd : tr.d with
          | none => rfl
          | some k =>
            have : k ≠ t := fun e => hd (by rw [hdd, e])
            simp only [look]
            cases hb : Nat.beq k t
            · rfl
            · exact absurd (Nat.eq_of_beq_eq_true hb) this
      have key' : ∀ s : St, look (bif L' i then s.app tr.d tr.v tr.nb tr.no else s).tm t = look s.tm t := fun s => by
        cases L' i
        · rfl
        · simp only [cond_true, St.app]
          cases hdd : tr.d with
          | none => rfl
          | some k =>
            have : k ≠ t := fun e => hd (by rw [hdd, e])
            simp only [look]
            cases hb : Nat.beq k t
            · rfl
            · exact absurd (Nat.eq_of_beq_eq_true hb) this
      rw [key, key']; exact h
theorem look_last {L : Nat → Bool} {t : Nat} {v : AV} : ∀ (T : List Tr) (i k : Nat) (s : St) (tr : Tr), T[k]? = some tr → tr.d = some t → tr.v = v → L (i + k) = true → (∀ j tr', T[j]? = some tr' → k < j → tr'.d = some t → L (i + j) = false) → look (stS L T i s).tm t = v
  | [], _, _, _, _, h, _, _, _, _ => by simp at h
  | tr0 :: T, i, 0, s, tr, h, hd, hv, hL, hn => by
    simp only [List.getElem?_cons_zero, Option.some.injEq] at h
    subst h
    simp only [stS]
    rw [Nat.add_zero] at hL
    rw [hL]
    have := look_stS (L := L) (L' := fun _ => false) (t := t) T (i + 1) (s.app tr0.d tr0.v tr0.nb tr0.no) (s.app tr0.d tr0.v tr0.nb tr0.no) rfl fun j tr' hj hd' => by
      have := hn (j + 1) tr' (by simpa using hj) (by omega) hd'
      rwa [show i + (j + 1) = i + 1 + j by omega] at this
    rw [cond_true, this]
    have zero : ∀ (T : List Tr) (i : Nat) (s : St), stS (fun _ => false) T i s = s := by
      intro T
      induction T with
      | nil => intro i s; rfl
      | cons t T ih => intro i s; simp only [stS, cond_false]; exact ih _ s
    rw [zero]
    simp [St.app, hd, look, hv]
  | tr0 :: T, i, k + 1, s, tr, h, hd, hv, hL, hn => by
    simp only [stS]
    refine look_last T (i + 1) k _ tr (by simpa using h) hd hv (by rwa [show i + (k + 1) = i + 1 + k by omega] at hL) fun j tr' hj hkj hd' => ?_
    have := hn (j + 1) tr' (by simpa using hj) (by omega) hd'
    rwa [show i + (j + 1) = i + 1 + j by omega] at this
theorem mem_bl_stS {L : Nat → Bool} {p : Nat × List AV} : ∀ (T : List Tr) (i : Nat) (s : St), p ∈ (stS L T i s).bl ↔ p ∈ s.bl ∨ ∃ j tr, T[j]? = some tr ∧ L (i + j) = true ∧ p ∈ tr.nb
  | [], i, s => by simp [stS]
  | tr :: T, i, s => by
    simp only [stS, mem_bl_stS T]
    constructor
    · rintro (h | ⟨j, tr', h1, h2, h3⟩)
      · cases hL : L i
        · rw [hL] at h; exact .inl h
        · rw [hL] at h
          simp only [cond_true, St.app, List.mem_append] at h
          rcases h with h | h
          · exact .inr ⟨0, tr, rfl, by simpa using hL, h⟩
          · exact .inl h
      · exact .inr ⟨j + 1, tr', by simpa using h1, by rwa [show i + (j + 1) = i + 1 + j by omega], h3⟩
    · rintro (h | ⟨j, tr', h1, h2, h3⟩)
      · refine .inl ?_
        cases L i
        · exact h
        · simp [St.app, h]
      · cases j with
        | zero =>
          simp only [List.getElem?_cons_zero, Option.some.injEq] at h1
          subst h1
          rw [Nat.add_zero] at h2
          refine .inl ?_
          rw [h2]; simp [St.app, h3]
        | succ j => exact .inr ⟨j, tr', by simpa using h1, by rwa [show i + (j + 1) = i + 1 + j by omega] at h2, h3⟩
theorem mem_ow_stS {L : Nat → Bool} {p : Nat} : ∀ (T : List Tr) (i : Nat) (s : St), p ∈ (stS L T i s).ow ↔ p ∈ s.ow ∨ ∃ j tr, T[j]? = some tr ∧ L (i + j) = true ∧ p ∈ tr.no
  | [], i, s => by simp [stS]
  | tr :: T, i, s => by
    simp only [stS, mem_ow_stS T]
    constructor
    · rintro (h | ⟨j, tr', h1, h2, h3⟩)
      · cases hL : L i
        · rw [hL] at h; exact .inl h
        · rw [hL] at h
          simp only [cond_true, St.app, List.mem_append] at h
          rcases h with h | h
          · exact .inr ⟨0, tr, rfl, by simpa using hL, h⟩
          · exact .inl h
      · exact .inr ⟨j + 1, tr', by simpa using h1, by rwa [show i + (j + 1) = i + 1 + j by omega], h3⟩
    · rintro (h | ⟨j, tr', h1, h2, h3⟩)
      · refine .inl ?_
        cases L i
        · exact h
        · simp [St.app, h]
      · cases j with
        | zero =>
          simp only [List.getElem?_cons_zero, Option.some.injEq] at h1
          subst h1
          rw [Nat.add_zero] at h2
          refine .inl ?_
          rw [h2]; simp [St.app, h3]
        | succ j => exact .inr ⟨j, tr', by simpa using h1, by rwa [show i + (j + 1) = i + 1 + j by omega] at h2, h3⟩

theorem Mem.same {E : En} {g : Gh} {bl bl' : List (Nat × List AV)} {ow ow' : List Nat} {w : World} (h : Mem E g bl ow w) (hb : ∀ p, p ∈ bl ↔ p ∈ bl') (ho : ∀ n, n ∈ ow → n ∈ ow') : Mem E g bl' ow' w :=
  { h with blk := fun n cs hn => h.blk n cs ((hb _).2 hn), key := fun n b hb' => let ⟨cs, hc⟩ := h.key n b hb'; ⟨cs, (hb _).1 hc⟩, own := fun n hn => ho n (h.own n hn) }

def depRow (ops : Array Oper) (tab : List (List Nat)) (k : Nat) : List Nat :=
  match ops[k]? with
  | some o => (o.after.toList.flatMap fun e => bif Region.binds .any e then e.on :: tab.getD e.on [] else []).eraseDups
  | none => []
def depTab (ops : Array Oper) : Nat → List (List Nat)
  | 0 => []
  | k + 1 => let t := depTab ops k; t ++ [depRow ops t k]
theorem depTab_length (ops : Array Oper) : ∀ k, (depTab ops k).length = k
  | 0 => rfl
  | k + 1 => by simp [depTab, depTab_length ops k]
theorem depTab_closed {ops : Array Oper} {L : Nat → Bool} (hL : ∀ i o, ops[i]? = some o → L i = true → ∀ e ∈ o.after, Region.binds .any e = true → L e.on = true) :
    ∀ (k i : Nat), (∀ o, ops[i]? = some o → ∀ e ∈ o.after, Region.binds .any e = true → L e.on = true) → ∀ j ∈ (depTab ops k).getD i [], L j = true
  | 0, i, _, j, hj => by simp [depTab] at hj
  | k + 1, i, hi, j, hj => by
    simp only [depTab] at hj
    rcases Nat.lt_trichotomy i k with h | h | h
    · rw [List.getD_eq_getElem?_getD, List.getElem?_append_left (by rw [depTab_length]; exact h), ← List.getD_eq_getElem?_getD] at hj
      exact depTab_closed hL k i hi j hj
    · subst h
      rw [List.getD_eq_getElem?_getD, List.getElem?_append_right (by rw [depTab_length]; exact Nat.le_refl _), depTab_length, Nat.sub_self] at hj
      simp only [List.getElem?_cons_zero, Option.getD_some, depRow] at hj
      split at hj
      · rename_i o ho
        rw [List.mem_eraseDups, List.mem_flatMap] at hj
        obtain ⟨e, he, hj⟩ := hj
        cases hb : Region.binds .any e
        · rw [hb] at hj; simp at hj
        · rw [hb] at hj
          have h1 := hi o ho e (by simpa using he) hb
          simp only [cond_true, List.mem_cons] at hj
          rcases hj with rfl | hj
          · exact h1
          · exact depTab_closed hL i e.on (fun o' ho' => hL e.on o' ho' h1) j hj
      · simp at hj
    · rw [List.getD_eq_getElem?_getD, List.getElem?_eq_none (by rw [List.length_append, depTab_length]; simp; omega)] at hj
      simp at hj

def headB (ops : Array Oper) (n : Nat) : Bool :=
  let tab := depTab ops n
  Nat.ble n ops.size &&
  (List.range n).all fun i => match ops[i]? with
    | none => false
    | some o => o.after.all (fun e => bif Region.binds .any e then Nat.blt e.on i else true) &&
      (List.range n).all fun j => match ops[j]? with
        | none => false
        | some oj => match oj.dst with
          | none => true
          | some t => (bif Nat.beq i j then true else bif ((o.looksAt ops).contains t || o.dst == some t) then (bif Nat.blt j i then (tab.getD i []).contains j else (tab.getD j []).contains i) else true)
def tailB (ops : Array Oper) (n : Nat) : Bool :=
  (bif Nat.blt n ops.size then Region.sinkB .any ops n && Region.chainB .any ops n else true) &&
  Region.seqB .any ops (ops.size - n) n ((List.range ops.size).map fun i => Nat.blt i n).toArray

theorem headB_spec {ops : Array Oper} {n : Nat} (h : headB ops n = true) : n ≤ ops.size ∧
    (∀ i o, i < n → ops[i]? = some o → ∀ e ∈ o.after, Region.binds .any e = true → e.on < i) ∧
    (∀ i o j oj t, i < n → j < n → i ≠ j → ops[i]? = some o → ops[j]? = some oj → oj.dst = some t → (t ∈ o.looksAt ops ∨ o.dst = some t) → (j < i → j ∈ (depTab ops n).getD i []) ∧ (i < j → i ∈ (depTab ops n).getD j [])) := by
  simp only [headB, Bool.and_eq_true, List.all_eq_true, List.mem_range] at h
  refine ⟨Nat.le_of_ble_eq_true h.1, fun i o hi ho e he hb => ?_, fun i o j oj t hi hj hne ho hoj ht hl => ?_⟩
  · have := h.2 i hi
    rw [ho] at this
    simp only [Bool.and_eq_true, Array.all_eq_true_iff_forall_mem] at this
    have h2 := this.1 e he
    rw [hb] at h2
    exact Nat.le_of_ble_eq_true h2
  · have := h.2 i hi
    rw [ho] at this
    simp only [Bool.and_eq_true, List.all_eq_true, List.mem_range] at this
    have h2 := this.2 j hj
    rw [hoj] at h2
    simp only [ht] at h2
    have hb : Nat.beq i j = false := by
      cases h3 : Nat.beq i j
      · rfl
      · exact absurd (Nat.eq_of_beq_eq_true h3) hne
    have hc : ((o.looksAt ops).contains t || o.dst == some t) = true := by
      rcases hl with hl | hl
      · simp [hl]
      · simp [hl]
    rw [hb, hc] at h2
    simp only [cond_false, cond_true] at h2
    constructor
    · intro hji
      have h4 : Nat.blt j i = true := Nat.ble_eq_true_of_le hji
      rw [h4] at h2
      simpa using h2
    · intro hij
      have h4 : Nat.blt j i = false := by
        cases h5 : Nat.blt j i
        · rfl
        · have := Nat.le_of_ble_eq_true h5; omega
      rw [h4] at h2
      simpa using h2

def cnt : Nat → (Nat → Bool) → Nat
  | 0, _ => 0
  | n + 1, L => cnt n L + (bif L n then 0 else 1)
theorem cnt_set {L L' : Nat → Bool} {i : Nat} (hi : L i = false) (hi' : L' i = true) (hL : ∀ j, j ≠ i → L' j = L j) : ∀ n, cnt n L = cnt n L' + (if i < n then 1 else 0)
  | 0 => by simp [cnt]
  | n + 1 => by
    simp only [cnt, cnt_set hi hi' hL n]
    by_cases h : n = i
    · subst h; rw [hi, hi']; simp
    · rw [hL n h]
      by_cases h2 : i < n
      · rw [if_pos h2, if_pos (by omega)]; omega
      · rw [if_neg h2, if_neg (by omega)]; omega
theorem cnt_zero {L : Nat → Bool} : ∀ {n : Nat}, cnt n L = 0 → ∀ i, i < n → L i = true
  | 0, _, i, hi => by omega
  | n + 1, h, i, hi => by
    simp only [cnt] at h
    by_cases e : i = n
    · subst e
      cases hL : L i
      · rw [hL] at h; simp at h
      · rfl
    · exact cnt_zero (n := n) (by omega) i (by omega)
theorem cnt_pos {L : Nat → Bool} : ∀ {n : Nat}, 0 < cnt n L → ∃ i, i < n ∧ L i = false ∧ ∀ j, j < i → L j = true
  | 0, h => by simp [cnt] at h
  | n + 1, h => by
    by_cases h0 : 0 < cnt n L
    · obtain ⟨i, h1, h2, h3⟩ := cnt_pos h0
      exact ⟨i, by omega, h2, h3⟩
    · have hz : cnt n L = 0 := by omega
      simp only [cnt] at h
      refine ⟨n, by omega, ?_, cnt_zero hz⟩
      cases hL : L n
      · rfl
      · rw [hL] at h; simp at h; omega
theorem cnt_false : ∀ n, cnt n (fun _ => false) = n
  | 0 => rfl
  | n + 1 => by simp [cnt, cnt_false n]

theorem looksAt_op {ops : Array Oper} {o : Oper} {t : Nat} (h : Operand.tmp t ∈ o.op.operands) : t ∈ o.looksAt ops := by
  simp only [Oper.looksAt, List.mem_append, List.mem_filterMap]
  exact .inl ⟨.tmp t, by simpa using h, rfl⟩
theorem looksAt_guard {ops : Array Oper} {o : Oper} {j t : Nat} {b : Bool} (hg : o.guard = some (j, b)) (hj : (ops[j]?).bind (·.dst) = some t) : t ∈ o.looksAt ops := by
  simp only [Oper.looksAt, List.mem_append, hg, hj]
  exact .inr (by simp)

theorem ev_same {tm tm' : List (Nat × AV)} {x : Operand} (h : ∀ t, x = .tmp t → look tm t = look tm' t) : ev tm x = ev tm' x := by
  cases x with
  | tmp t => exact h t rfl
  | _ => rfl

theorem wpAnyIn_of_seq {F : Fence} {n : Nat} {P : Program} {ops : Array Oper} {md : Region.Mode} {Q' : Exit → Act → World → Prop} : ∀ (l : List Oper) (k : Nat) (listed : Array Bool) (a : Act) (w : World), (∀ j, l[j]? = ops[k + j]?) →
    Region.seqB md ops l.length k listed = true → wpListIn F n P ops Q' l a w → wpAnyIn F n P md ops Q' l.length listed a w
  | [], _, _, _, _, _, hB, h => ⟨by simpa [Region.seqB] using hB, h⟩
  | o :: l, k, listed, a, w, hl, hB, h => by
    have h0 : ops[k]? = some o := by simpa using (hl 0).symm
    simp only [List.length_cons, Region.seqB, Bool.and_eq_true, decide_eq_true_eq] at hB
    obtain ⟨hB1, hB2⟩ := hB
    refine ⟨fun h1 => (by rw [hB1] at h1; cases h1), fun i hi => ?_⟩
    rw [hB1] at hi
    obtain rfl : i = k := by simpa using hi
    have key : wpOpIn F n P ops Q' i (wpListIn F n P ops Q' l) a w := by unfold wpOpIn; simp only [h0]; exact h
    exact wpOpIn_mono (fun a' w' h' => wpAnyIn_of_seq l (i + 1) _ a' w' (fun j => by have := hl (j + 1); simpa [Nat.add_assoc, Nat.add_comm 1 j] using this) hB2 h') key
theorem W_draw {E : En} {id : Nat} {l : List Oper} {Q : Exit → St → Prop} {s : St} (n : Nat) (hm : E.P.follows .mixedOrders = true) (hB : headB l.toArray n = true) (hT : tailB l.toArray n = true)
    (h : HW E l.toArray s.bl (l.take n) s (fun s' => WL E l.toArray (l.drop n) Q s')) : W E (.region id l.toArray true) Q s := by
  intro g0 a0 w00 hi0
  obtain ⟨T, hTl, hK, hstep⟩ := HW_trace _ _ h
  obtain ⟨hn, hback, hord⟩ := headB_spec hB
  have hn' : n ≤ l.length := by simpa using hn
  have hTn : T.length = n := by rw [hTl]; simp; omega
  simp only [tailB, Bool.and_eq_true] at hT
  obtain ⟨hT1, hT2⟩ := hT
  have hopt : ∀ i, i < n → ∃ o t, l.toArray[i]? = some o ∧ (l.take n)[i]? = some o ∧ T[i]? = some t := fun i hi => by
    have h1 : i < l.length := by omega
    refine ⟨l[i], T[i]'(by omega), by simp [h1], by simp [hi, h1], by simp [hTn, hi]⟩
  have inS : ∀ (i : Nat) (t : Tr), T[i]? = some t → ∀ (j : Nat) (t' : Tr), j < i → T[j]? = some t' → ∀ q ∈ t'.nb, q ∈ (stS (fun j => decide (j < i)) T 0 s).bl := fun i t _ j t' hj ht' q hq => (mem_bl_stS T 0 s).2 (.inr ⟨j, t', ht', by simpa using hj, hq⟩)
  have inS0 : ∀ (i : Nat) q, q ∈ s.bl → q ∈ (stS (fun j => decide (j < i)) T 0 s).bl := fun i q hq => (mem_bl_stS T 0 s).2 (.inl hq)
  have inO : ∀ (i : Nat) (t : Tr), T[i]? = some t → ∀ (j : Nat) (t' : Tr), j < i → T[j]? = some t' → ∀ k ∈ t'.no, k ∈ (stS (fun j => decide (j < i)) T 0 s).ow := fun i t _ j t' hj ht' k hk => (mem_ow_stS T 0 s).2 (.inr ⟨j, t', ht', by simpa using hj, hk⟩)
  let Lf : Array Bool → Nat → Bool := fun listed i => listed.getD i false
  have tailNot : ∀ listed, HeadInv .any l.toArray n listed → 0 < cnt n (Lf listed) → ∀ i ∈ Region.ready .any l.toArray listed, i < n := by
    intro listed inv hc i hi
    rcases Nat.lt_or_ge i n with h1 | h1
    · exact h1
    · exfalso
      have hlt : i < l.toArray.size := by
        obtain ⟨_, o, ho, _⟩ := mem_ready.1 hi
        exact (Array.getElem?_eq_some_iff.1 ho).1
      have hns : n < l.toArray.size := by omega
      have hb : Nat.blt n l.toArray.size = true := Nat.ble_eq_true_of_le hns
      rw [hb] at hT1
      simp only [cond_true, Bool.and_eq_true] at hT1
      obtain ⟨k, hk1, hk2, _⟩ := cnt_pos hc
      have hk3 : listed.getD k true = false := getD_in (by rw [inv.size]; omega) hk2
      exact tail_waits hT1.1 hT1.2 hns inv _ k rfl hk1 hk3 i h1 hi
  have progress : ∀ listed, HeadInv .any l.toArray n listed → 0 < cnt n (Lf listed) → Region.ready .any l.toArray listed ≠ [] := by
    intro listed inv hc he
    obtain ⟨k, hk1, hk2, hk3⟩ := cnt_pos hc
    have : k ∈ Region.ready .any l.toArray listed := by
      obtain ⟨o, t, h1, _, _⟩ := hopt k hk1
      exact mem_ready.2 ⟨getD_in (by rw [inv.size]; omega) hk2, o, h1, fun e he hb => hk3 _ (hback k o hk1 h1 e he hb)⟩
    rw [he] at this
    cases this
  have main : ∀ (f : Nat) (listed : Array Bool) (g : Gh) (a : Act) (w : World), cnt n (Lf listed) = f → HeadInv .any l.toArray n listed → Inv E g (stS (Lf listed) T 0 s) a w → wpAnyIn (fo E.rd) 0 E.P .any l.toArray (post E Q) (f + (l.toArray.size - n)) listed a w := by
    intro f
    induction f with
    | zero =>
      intro listed g a w hc inv hinv
      have hall := cnt_zero hc
      have hst : stS (Lf listed) T 0 s = stS (fun _ => true) T 0 s := by
        have : ∀ (T : List Tr) (i : Nat) (s : St), (∀ j, j < T.length → Lf listed (i + j) = true) → stS (Lf listed) T i s = stS (fun _ => true) T i s := by
          intro T
          induction T with
          | nil => intro i s _; rfl
          | cons t T ih =>
            intro i s hL
            simp only [stS]
            rw [show Lf listed i = true by simpa using hL 0 (by simp)]
            exact ih (i + 1) _ fun j hj => by have := hL (j + 1) (by simp; omega); rwa [show i + (j + 1) = i + 1 + j by omega] at this
        exact this T 0 s fun j hj => by rw [Nat.zero_add]; exact hall j (by omega)
      rw [hst] at hinv
      have hli : listed = ((List.range l.toArray.size).map fun i => Nat.blt i n).toArray := by
        apply Array.ext
        · simp [inv.size]
        · intro i h1 h2
          have h3 : i < l.toArray.size := by rw [← inv.size]; exact h1
          simp only [List.getElem_toArray, List.getElem_map, List.getElem_range]
          rcases Nat.lt_or_ge i n with h4 | h4
          · have h5 := hall i h4
            simp only [Lf, Array.getD_eq_getD_getElem?, Array.getElem?_eq_getElem h1, Option.getD_some] at h5
            rw [h5]
            exact (Nat.ble_eq_true_of_le h4).symm
          · have h5 := inv.tail i h4 h3
            simp only [Array.getD_eq_getD_getElem?, Array.getElem?_eq_getElem h1, Option.getD_some] at h5
            rw [h5]
            cases h6 : Nat.blt i n
            · rfl
            · have := Nat.le_of_ble_eq_true h6; omega
      have hdl : (l.drop n).length = l.toArray.size - n := by simp
      have := wpAnyIn_of_seq (F := fo E.rd) (n := 0) (P := E.P) (md := .any) (Q' := post E Q) (l.drop n) n listed a w (fun j => by simp [List.getElem?_drop]) (by rw [hdl, hli]; exact hT2) (hK g a w hinv)
      rw [hdl] at this
      rw [Nat.zero_add]; exact this
    | succ f ih =>
      intro listed g a w hc inv hinv
      rw [show f + 1 + (l.toArray.size - n) = (f + (l.toArray.size - n)) + 1 by omega]
      have hpos : 0 < cnt n (Lf listed) := by omega
      refine ⟨fun he => absurd he (progress listed inv hpos), fun i hi => ?_⟩
      have hin := tailNot listed inv hpos i hi
      obtain ⟨o, t, ho, ho', ht⟩ := hopt i hin
      obtain ⟨hun, o2, ho2, hdeps⟩ := mem_ready.1 hi
      have : o2 = o := Option.some.inj (ho2.symm.trans ho)
      subst this
      have hLi : Lf listed i = false := getD_both hun
      obtain ⟨⟨hd, hdst, hrun⟩, hnew⟩ := hstep i o2 t ho' ht
      have closed : ∀ k ok, l.toArray[k]? = some ok → Lf listed k = true → ∀ e ∈ ok.after, Region.binds .any e = true → Lf listed e.on = true := fun k ok hk hl e he hb => inv.closed k ok hk hl e he hb
      have depI : ∀ j ∈ (depTab l.toArray n).getD i [], Lf listed j = true := depTab_closed closed n i fun o' ho' e he hb => by
        have : o' = o2 := Option.some.inj (ho'.symm.trans ho)
        subst this
        exact hdeps e he hb
      have depJ : ∀ j, i ∈ (depTab l.toArray n).getD j [] → Lf listed j = false := fun j hj => by
        cases hLj : Lf listed j
        · rfl
        · have := depTab_closed closed n j (fun o' ho' => closed j o' ho' hLj) i hj
          rw [hLi] at this; cases this
      have hTd : ∀ j tr, T[j]? = some tr → j < n ∧ ∃ oj, l.toArray[j]? = some oj ∧ tr.d = oj.dst := fun j tr hj => by
        have hjn : j < n := by rw [← hTn]; exact (List.getElem?_eq_some_iff.1 hj).1
        obtain ⟨oj, t', h1, h2, h3⟩ := hopt j hjn
        exact ⟨hjn, oj, h1, (hstep j oj tr h2 hj).1.d⟩
      have sameLook : ∀ u, u ∈ o2.looksAt l.toArray → look (stS (Lf listed) T 0 s).tm u = look (stS (fun j => decide (j < i)) T 0 s).tm u := fun u hu =>
        look_stS T 0 s s rfl fun j tr hj hdu => by
          rw [Nat.zero_add]
          obtain ⟨hjn, oj, hoj, hjd⟩ := hTd j tr hj
          rcases Nat.lt_trichotomy j i with h1 | h1 | h1
          · rw [decide_eq_true h1]
            exact depI j ((hord i o2 j oj u hin hjn (by omega) ho hoj (hjd ▸ hdu) (.inl hu)).1 h1)
          · subst h1; rw [hLi]; simp
          · rw [decide_eq_false (by omega)]
            exact depJ j ((hord i o2 j oj u hin hjn (by omega) ho hoj (hjd ▸ hdu) (.inl hu)).2 h1)
      have hLset : ∀ j, Lf (listed.setIfInBounds i true) j = (decide (j = i) || Lf listed j) := fun j => by
        by_cases e : j = i
        · subst e
          have hlt : j < listed.size := by rw [inv.size]; exact (Array.getElem?_eq_some_iff.1 ho).1
          simp [Lf, hlt]
        · simp only [e, decide_false, Bool.false_or, Lf]
          exact getD_set_ne false (Ne.symm e)
      have hcnt : cnt n (Lf (listed.setIfInBounds i true)) = f := by
        have := cnt_set (L := Lf listed) (L' := Lf (listed.setIfInBounds i true)) (i := i) hLi (by rw [hLset]; simp) (fun j hj => by rw [hLset]; simp [hj]) n
        rw [if_pos hin] at this
        omega
      -- what holds behind the step
      have next : ∀ (g' : Gh) (a' : Act) (w' : World), Inv E g' ((stS (Lf listed) T 0 s).app t.d t.v t.nb t.no) a' w' → wpAnyIn (fo E.rd) 0 E.P .any l.toArray (post E Q) (f + (l.toArray.size - n)) (listed.setIfInBounds i true) a' w' := by
        intro g' a' w' hinv'
        refine ih _ g' a' w' hcnt (inv.set hi hin) ⟨hinv'.mem.same (fun p => ?_) (fun k hk => ?_), fun u => ?_, hinv'.de, hinv'.sz⟩
        · simp only [St.app, List.mem_append, mem_bl_stS, hLset, Nat.zero_add]
          constructor
          · rintro (hp | hp | ⟨j, tr, h1, h2, h3⟩)
            · exact .inr ⟨i, t, ht, by simp, hp⟩
            · exact .inl hp
            · exact .inr ⟨j, tr, h1, by simp [h2], h3⟩
          · rintro (hp | ⟨j, tr, h1, h2, h3⟩)
            · exact .inr (.inl hp)
            · by_cases e : j = i
              · subst e
                rw [ht] at h1; cases h1; exact .inl h3
              · exact .inr (.inr ⟨j, tr, h1, by simpa [e] using h2, h3⟩)
        · simp only [St.app, List.mem_append, mem_ow_stS, hLset, Nat.zero_add] at hk ⊢
          rcases hk with hp | hp | ⟨j, tr, h1, h2, h3⟩
          · exact .inr ⟨i, t, ht, by simp, hp⟩
          · exact .inl hp
          · exact .inr ⟨j, tr, h1, by simp [h2], h3⟩
        · have hu := hinv'.tm u
          have heq : look (stS (Lf (listed.setIfInBounds i true)) T 0 s).tm u = look ((stS (Lf listed) T 0 s).app t.d t.v t.nb t.no).tm u := by
            by_cases hdu : t.d = some u
            · have h1 : look ((stS (Lf listed) T 0 s).app t.d t.v t.nb t.no).tm u = t.v := by simp [St.app, hdu, look]
              rw [h1]
              refine look_last T 0 i s t ht hdu rfl (by rw [Nat.zero_add, hLset]; simp) fun j tr hj hij hdj => ?_
              rw [Nat.zero_add, hLset]
              obtain ⟨hjn, oj, hoj, hjd⟩ := hTd j tr hj
              have := depJ j ((hord i o2 j oj u hin hjn (by omega) ho hoj (hjd ▸ hdj) (.inr (hd ▸ hdu))).2 hij)
              rw [this]
              simp; omega
            · have h1 : look ((stS (Lf listed) T 0 s).app t.d t.v t.nb t.no).tm u = look (stS (Lf listed) T 0 s).tm u := by
                simp only [St.app]
                cases hdd : t.d with
                | none => rfl
                | some k =>
                  have : k ≠ u := fun e => hdu (by rw [hdd, e])
                  simp only [look]
                  cases hb : Nat.beq k u
                  · rfl
                  · exact absurd (Nat.eq_of_beq_eq_true hb) this
              rw [h1]
              refine look_stS T 0 s s rfl fun j tr hj hdj => ?_
              rw [Nat.zero_add, hLset]
              have : j ≠ i := fun e => by subst e; rw [ht] at hj; cases hj; exact hdu hdj
              simp [this]
          rw [heq]; exact hu
      have hdst' : ∀ k, t.d = some k → k < E.nt := fun k hk => dstB_spec hdst k (hd ▸ hk)
      unfold wpOpIn
      simp only [ho]
      have hguard : ∀ {j d b}, o2.guard = some (j, b) → (l.toArray[j]?).bind (·.dst) = some d → ∀ c, look (stS (fun j => decide (j < i)) T 0 s).tm d = .v (.bool c) → yielded l.toArray a.tmps j = some c := fun {j d b} hg hj c hc' => by
        have h1 := hinv.tm d
        rw [sameLook d (looksAt_guard hg hj), hc'] at h1
        simp only [rep] at h1
        exact yielded_of hj h1
      have oth : ∀ j tr, T[j]? = some tr → Lf listed j = true → j ≠ i := fun j tr _ hL e => by subst e; rw [hLi] at hL; cases hL
      have operandsOk : ∀ x ∈ o2.op.operands, rep g w (ev (stS (fun j => decide (j < i)) T 0 s).tm x) (a.eval x) := fun x hx => by
        have := rep_ev hinv.tm x
        rwa [ev_same (tm' := (stS (fun j => decide (j < i)) T 0 s).tm) fun u hu => by subst hu; exact sameLook u (looksAt_op hx)] at this
      rcases hrun with ⟨hq, ⟨hf, hnm⟩, hg⟩ | ⟨hv, hnb, hno, j, dd, b, hg, hj, hb⟩ | ⟨n0, cs0, hqi, hv, hnb, hno⟩ | ⟨hv, hnb, hno, j, dd, b, hg, hj, hb⟩
      · have hw : Region.wanted o2 (yielded l.toArray a.tmps) = true := by
          rcases hg with hg | ⟨j, dd, b, hg, hj, hb⟩
          · simp [Region.wanted, hg]
          · simp [Region.wanted, hg, hguard hg hj b hb]
        rw [hw]
        rw [if_pos rfl]
        have hfresh : (∀ p ∈ t.nb, ∀ q ∈ (stS (Lf listed) T 0 s).bl, p.1 ≠ q.1) ∧ ∀ k ∈ t.no, k ∉ (stS (Lf listed) T 0 s).ow := by
          obtain ⟨f1, f2⟩ := freshB_spec hf
          · refine ⟨fun p hp q hq' => ?_, fun k hk hk' => ?_⟩
            · rcases (mem_bl_stS T 0 s).1 hq' with hq' | ⟨j, tr, h1, h2, h3⟩
              · exact f1 p hp q (inS0 i q hq')
              · rw [Nat.zero_add] at h2
                rcases Nat.lt_trichotomy j i with h4 | h4 | h4
                · exact f1 p hp q (inS i t ht j tr h4 h1 q h3)
                · exact absurd h4 (oth j tr h1 h2)
                · obtain ⟨hjn, oj, hoj, hjd⟩ := hTd j tr h1
                  obtain ⟨oj', t', k1, k2, k3⟩ := hopt j hjn
                  have : oj' = oj := Option.some.inj (k1.symm.trans hoj)
                  subst this
                  rcases (hstep j oj' tr k2 h1).2 with ⟨hf', _⟩ | ⟨n2, cs2, e3, _, _, hop2, _⟩
                  · exact fun e => (freshB_spec hf').1 q h3 p (inS j tr h1 i t h4 ht p hp) e.symm
                  · intro e
                    rw [e3] at h3
                    simp only [List.mem_singleton] at h3
                    have e5 : o2.dst = some n2 := by rw [hnm p hp, e, h3]
                    have := depJ j ((hord j oj' i o2 n2 hjn hin (by omega) hoj ho e5 (.inl (looksAt_op hop2))).1 h4)
                    rw [h2] at this; cases this
            · rcases (mem_ow_stS T 0 s).1 hk' with hk' | ⟨j, tr, h1, h2, h3⟩
              · exact f2 k hk ((mem_ow_stS T 0 s).2 (.inl hk'))
              · rw [Nat.zero_add] at h2
                rcases Nat.lt_trichotomy j i with h4 | h4 | h4
                · exact f2 k hk (inO i t ht j tr h4 h1 k h3)
                · exact absurd h4 (oth j tr h1 h2)
                · obtain ⟨hjn, oj, hoj, hjd⟩ := hTd j tr h1
                  obtain ⟨oj', t', k1, k2, k3⟩ := hopt j hjn
                  rcases (hstep j oj' tr k2 h1).2 with ⟨hf', _⟩ | ⟨n2, cs2, e3, e4, _, hop2, _⟩
                  · exact (freshB_spec hf').2 k h3 (inO j tr h1 i t h4 ht k hk)
                  · rw [e4] at h3; simp at h3
        refine wp_of_uponQ (hq g w a.eval (stS (Lf listed) T 0 s).bl (stS (Lf listed) T 0 s).ow hinv.mem (fun p hp => (mem_bl_stS T 0 s).2 (.inl hp)) hfresh.1 hfresh.2 operandsOk) fun y w' hKy => ?_
        obtain ⟨g', h1, h2, h3⟩ := hKy
        have := hinv.app (d := t.d) hdst' h1 h2 h3
        rw [hd] at this
        exact next g' _ w' (by rw [hd]; exact this)
      · have hw : Region.wanted o2 (yielded l.toArray a.tmps) = false := by
          simp [Region.wanted, hg, hguard hg hj b hb]
        rw [hw]
        have := hinv.app (d := t.d) (v := t.v) (y := undef) (nb := t.nb) (no := t.no) hdst' (Goes.refl g w) (by rw [hnb, hno]; exact hinv.mem) (by rw [hv]; simp [rep])
        rw [hd] at this
        exact ⟨fun _ _ => trivial, next g _ w (by rw [hd]; exact this)⟩
      · have hw : Region.wanted o2 (yielded l.toArray a.tmps) = true := by simp [Region.wanted, hqi.2.1]
        rw [hw]
        rw [if_pos rfl]
        have hin0 : initB n0 cs0.length (stS (fun j => decide (j < i)) T 0 s).bl = true := by
          rcases hnew with ⟨hf, hnm⟩ | ⟨n1, cs1, e1, _, _, _, hin1⟩
          · have := hnm (n0, cs0) (by rw [hnb]; simp)
            rw [hqi.1] at this; cases this
          · rw [hnb] at e1
            simp only [List.cons.injEq, Prod.mk.injEq, and_true] at e1
            obtain ⟨rfl, rfl⟩ := e1
            exact hin1
        obtain ⟨⟨c0, hc0⟩, hall0⟩ := initB_spec hin0
        have hopt0 : n0 ∈ o2.looksAt l.toArray := looksAt_op hqi.2.2.1
        have hnt : ∀ c : List AV, c.all (fun x => !isTop x) = true → c ≠ [] → c.all isTop = true → False := by
          intro c h1 h2 h3
          cases c with
          | nil => exact h2 rfl
          | cons x c =>
            simp only [List.all_cons, Bool.and_eq_true, Bool.not_eq_true'] at h1 h3
            rw [h3.1] at h1; cases h1.1
        refine wp_of_uponQ (hqi.2.2.2.2 g w a.eval (stS (Lf listed) T 0 s).bl (stS (Lf listed) T 0 s).ow hinv.mem ⟨c0, ?_⟩ (fun c hc => ?_) operandsOk) fun y w' hKy => ?_
        · rcases (mem_bl_stS T 0 s).1 hc0 with h1 | ⟨j, tr, h1, h2, h3⟩
          · exact (mem_bl_stS T 0 s).2 (.inl h1)
          · rw [Nat.zero_add] at h2
            have hji : j < i := of_decide_eq_true h2
            refine (mem_bl_stS T 0 s).2 (.inr ⟨j, tr, h1, ?_, h3⟩)
            rw [Nat.zero_add]
            obtain ⟨hjn, oj, hoj, hjd⟩ := hTd j tr h1
            obtain ⟨oj', t', k1, k2, k3⟩ := hopt j hjn
            have : oj' = oj := Option.some.inj (k1.symm.trans hoj)
            subst this
            rcases (hstep j oj' tr k2 h1).2 with ⟨_, hnm'⟩ | ⟨n2, cs2, e3, _, hnt2, _, _⟩
            · exact depI j ((hord i o2 j oj' n0 hin hjn (by omega) ho hoj (hnm' _ h3) (.inl hopt0)).1 hji)
            · rw [e3] at h3
              simp only [List.mem_singleton, Prod.mk.injEq] at h3
              obtain ⟨rfl, rfl⟩ := h3
              exact (hnt _ hnt2.1 hnt2.2 (hall0 _ hc0).2).elim
        · rcases (mem_bl_stS T 0 s).1 hc with h1 | ⟨j, tr, h1, h2, h3⟩
          · exact hall0 c (inS0 i _ h1)
          · rw [Nat.zero_add] at h2
            rcases Nat.lt_trichotomy j i with h4 | h4 | h4
            · exact hall0 c (inS i t ht j tr h4 h1 _ h3)
            · exact absurd h4 (oth j tr h1 h2)
            · obtain ⟨hjn, oj, hoj, hjd⟩ := hTd j tr h1
              obtain ⟨oj', t', k1, k2, k3⟩ := hopt j hjn
              rcases (hstep j oj' tr k2 h1).2 with ⟨hf', _⟩ | ⟨n2, cs2, e3, _, _, _, hin2⟩
              · exact absurd rfl ((freshB_spec hf').1 _ h3 (n0, cs0) (inS j tr h1 i t h4 ht _ (by rw [hnb]; simp)))
              · rw [e3] at h3
                simp only [List.mem_singleton, Prod.mk.injEq] at h3
                obtain ⟨rfl, rfl⟩ := h3
                have := (initB_spec hin2).2 cs0 (inS j tr h1 i t h4 ht _ (by rw [hnb]; simp))
                exact (hnt _ hqi.2.2.2.1.1 hqi.2.2.2.1.2 this.2).elim
        · obtain ⟨hy, g', h1, h2⟩ := hKy
          have := hinv.app (d := t.d) (v := t.v) (y := y) (nb := t.nb) (no := t.no) hdst' h1 (by rw [hnb, hno]; exact h2) (by
            have hdn : t.d = none := hd.trans hqi.1
            rw [hv, hy]; simp [rep])
          rw [hd] at this
          exact next g' _ w' (by rw [hd]; exact this)
      · have hw : Region.wanted o2 (yielded l.toArray a.tmps) = false := by
          have h1 := hinv.tm dd
          rw [sameLook dd (looksAt_guard hg hj), hb] at h1
          simp only [rep] at h1
          simp [Region.wanted, hg, yielded_un hj h1]
        rw [hw]
        have := hinv.app (d := t.d) (v := t.v) (y := undef) (nb := t.nb) (no := t.no) hdst' (Goes.refl g w) (by rw [hnb, hno]; exact hinv.mem) (by rw [hv]; simp [rep])
        rw [hd] at this
        exact ⟨fun _ _ => trivial, next g _ w (by rw [hd]; exact this)⟩
  refine wpIn_region_any hm ?_
  have inv0 : HeadInv .any l.toArray n (Array.replicate l.toArray.size false) :=
    ⟨by simp, fun j oj _ hl => (by rw [getD_replicate_false] at hl; cases hl), fun t _ ht => getD_in (by simpa using ht) (getD_replicate_false _ _)⟩
  have hL0 : Lf (Array.replicate l.toArray.size false) = fun _ => false := by funext i; exact getD_replicate_false _ _
  have := main n (Array.replicate l.toArray.size false) g0 a0 { w00 with drawn := w00.drawn + 1 } (by rw [hL0]; exact cnt_false n) inv0 ?_
  · rwa [show n + (l.toArray.size - n) = l.toArray.size by omega] at this
  · rw [hL0]
    have zero : ∀ (T : List Tr) (i : Nat) (s : St), stS (fun _ => false) T i s = s := by
      intro T
      induction T with
      | nil => intro i s; rfl
      | cons t T ih => intro i s; simp only [stS, cond_false]; exact ih _ s
    rw [zero]
    exact hi0.drew
end Go.Eng

namespace Go.Eng
open Go

def thenW (E : En) (y : Code) (Q : Exit → St → Prop) : Exit → St → Prop
  | .normal, s => W E y Q s
  | e, s => Q e s
theorem W_seq {E : En} {x y : Code} {Q : Exit → St → Prop} {s : St} (h : W E x (thenW E y Q) s) : W E (.seq x y) Q s := fun g a w hi =>
  wpIn_seq (wpIn_mono (h g a w hi) fun e a' w' hq => by
    obtain ⟨g', s', h1, h2⟩ := hq
    cases e with
    | normal => exact h1 g' a' w' h2
    | _ => exact ⟨g', s', h1, h2⟩)
theorem W_skip {E : En} {Q : Exit → St → Prop} {s : St} (h : Q .normal s) : W E .skip Q s := fun g _ _ hi => wpIn_skip ⟨g, s, h, hi⟩
theorem W_ret {E : En} {Q : Exit → St → Prop} {s : St} (h : Q .ret s) : W E .ret Q s := fun g _ _ hi => wpIn_ret ⟨g, s, h, hi⟩
theorem W_exit {E : En} {Q : Exit → St → Prop} {s : St} {id : Nat} (h : Q (.exit id) s) : W E (.exit id) Q s := fun g _ _ hi => wpIn_exit ⟨g, s, h, hi⟩
theorem W_label {E : En} {Q : Exit → St → Prop} {s : St} {id : Nat} (h : Q .normal s) : W E (.label id) Q s := fun g _ _ hi => wpIn_label ⟨g, s, h, hi⟩
theorem W_cond {E : En} {Q : Exit → St → Prop} {s : St} {c : Operand} {x y : Code} {b : Bool} (hc : ev s.tm c = .v (.bool b)) (ht : b = true → W E x Q s) (hf : b = false → W E y Q s) : W E (.cond c x y) Q s := fun g a w hi => by
  have h1 := rep_ev hi.tm c
  rw [hc] at h1
  simp only [rep] at h1
  exact wpIn_cond_split h1 (fun h => ht h g a w hi) (fun h => hf h g a w hi)
def inBlk (id : Nat) (Q : Exit → St → Prop) : Exit → St → Prop
  | .exit i, s => bif Nat.beq i id then Q .normal s else Q (.exit i) s
  | e, s => Q e s
theorem W_block {E : En} {Q : Exit → St → Prop} {s : St} {id : Nat} {c : Code} (h : W E c (inBlk id Q) s) : W E (.block id c) Q s := fun g a w hi =>
  wpIn_block (wpIn_mono (h g a w hi) fun e a' w' hq => by
    obtain ⟨g', s', h1, h2⟩ := hq
    cases e with
    | exit i =>
      simp only [Exit.inBlock]
      simp only [inBlk] at h1
      by_cases hid : i = id
      · subst hid
        rw [if_pos rfl]
        simp only [Nat.beq_refl, cond_true] at h1
        exact ⟨g', s', h1, h2⟩
      · rw [if_neg hid]
        have : Nat.beq i id = false := by
          cases hb : Nat.beq i id
          · rfl
          · exact absurd (Nat.eq_of_beq_eq_true hb) hid
        rw [this] at h1
        exact ⟨g', s', h1, h2⟩
    | _ => exact ⟨g', s', h1, h2⟩)

inductive Le (os0 : List Nat) : AV → AV → Prop where
  | refl {x : AV} : Le os0 x x
  | eq {x y : AV} (h : x = y) : Le os0 x y
  | top {x : AV} : Le os0 x .top
  | nilOwn {n T e : Nat} (h : os0.any (Nat.beq n) = false) : Le os0 (.v (.slice none 0 0)) (.own n T e [])
  | nilSl {e : Nat} : Le os0 (.v (.slice none 0 0)) (.sl e [])
  | ownSl {n T e : Nat} {rows : List (List AV)} : Le os0 (.own n T e rows) (.sl e rows)
inductive Les (os0 : List Nat) : List AV → List AV → Prop where
  | nil : Les os0 [] []
  | cons {x y : AV} {xs ys : List AV} (h : Le os0 x y) (hs : Les os0 xs ys) : Les os0 (x :: xs) (y :: ys)
theorem Les.refl {os0 : List Nat} : ∀ (xs : List AV), Les os0 xs xs
  | [] => .nil
  | _ :: xs => .cons .refl (Les.refl xs)

def Pick (os0 : List Nat) (tm : List (Nat × AV)) : List (Nat × AV) → Prop
  | [] => True
  | (t, v) :: r => Le os0 (look tm t) v ∧ Pick os0 tm r
def PickB (os0 : List Nat) (bl : List (Nat × List AV)) : List (Nat × List AV) → Prop
  | [] => True
  | (n, cs) :: r => (∃ cs0, lookB bl n = some cs0 ∧ Les os0 cs0 cs) ∧ PickB os0 bl r

mutual
def refs (ks os : List Nat) : AV → Bool
  | .top => true
  | .v _ => true
  | .agg cs => refsL ks os cs
  | .tup cs => refsL ks os cs
  | .sl .. => true
  | .own n _ _ _ => os.any (Nat.beq n)
  | .ptr n _ => ks.any (Nat.beq n)
  | .eptr _ => true
  | .fn _ fs cs => refsL ks os fs && refsL ks os cs
  | .arr n _ _ _ => ks.any (Nat.beq n)
def refsL (ks os : List Nat) : List AV → Bool
  | [] => true
  | x :: xs => refs ks os x && refsL ks os xs
end
theorem any_beq {l : List Nat} {n : Nat} (h : l.any (Nat.beq n) = true) : n ∈ l := by
  obtain ⟨k, hk, hb⟩ := List.any_eq_true.1 h
  rw [Nat.eq_of_beq_eq_true hb]; exact hk

section
variable {g g' : Gh} {w : World} {ks os : List Nat}
mutual
theorem rep_refs (hI : g'.I = g.I) (hm : ∀ n b, n ∈ ks → g.m n = some b → g'.m n = some b) (ht : g'.mt = g.mt) (ho : ∀ n, n ∈ os → g.ow n → g'.ow n ∧ g'.om n = g.om n) : ∀ {x : AV} {y : Value}, refs ks os x = true → rep g w x y → rep g' w x y
  | .top, _, _, _ => by simp [rep]
  | .v x, y, _, h => by simpa [rep] using h
  | .agg cs, y, hr, h => by
    simp only [rep, refs] at h hr ⊢
    obtain ⟨a, e, h⟩ := h
    exact ⟨a, e, reps_refs hI hm ht ho hr h⟩
  | .tup cs, y, hr, h => by
    simp only [rep, refs] at h hr ⊢
    obtain ⟨a, e, h⟩ := h
    exact ⟨a, e, reps_refs hI hm ht ho hr h⟩
  | .sl e rows, y, _, h => by
    simp only [rep] at h ⊢
    rw [hI]; exact h
  | .own n T e rows, y, hr, h => by
    simp only [rep, refs] at h hr ⊢
    obtain ⟨h1, h2, xs, h3, h4, h5, h6⟩ := h
    obtain ⟨k1, k2⟩ := ho n (any_beq hr) h1
    exact ⟨k1, h2.trans k2.symm, xs, h3, by rw [hI]; exact h4, h5, by rw [k2, hI]; exact h6⟩
  | .ptr n off, y, hr, h => by
    simp only [rep, refs] at h hr ⊢
    obtain ⟨b, h1, h2⟩ := h
    exact ⟨b, hm n b (any_beq hr) h1, h2⟩
  | .eptr cs, y, _, h => by
    simp only [rep] at h ⊢
    rw [hI]; exact h
  | .fn f fs cs, y, hr, h => by
    simp only [rep, refs, Bool.and_eq_true] at h hr ⊢
    obtain ⟨a, b, h1, h2, h3⟩ := h
    exact ⟨a, b, h1, reps_refs hI hm ht ho hr.1 h2, reps_refs hI hm ht ho hr.2 h3⟩
  | .arr n T e len, y, hr, h => by
    simp only [rep, refs] at h hr ⊢
    obtain ⟨b, c, h1, h2, h3⟩ := h
    exact ⟨b, c, hm n b (any_beq hr) h1, by rw [ht]; exact h2, h3⟩
theorem reps_refs (hI : g'.I = g.I) (hm : ∀ n b, n ∈ ks → g.m n = some b → g'.m n = some b) (ht : g'.mt = g.mt) (ho : ∀ n, n ∈ os → g.ow n → g'.ow n ∧ g'.om n = g.om n) : ∀ {xs : List AV} {ys : List Value}, refsL ks os xs = true → reps g w xs ys → reps g' w xs ys
  | [], ys, _, h => by simpa [reps] using h
  | x :: xs, ys, hr, h => by
    simp only [reps, refsL, Bool.and_eq_true] at h hr ⊢
    obtain ⟨y, zs, e, h1, h2⟩ := h
    exact ⟨y, zs, e, rep_refs hI hm ht ho hr.1 h1, reps_refs hI hm ht ho hr.2 h2⟩
end
end

def Weak (E : En) (s s' : St) : Prop := ∀ g a w, Inv E g s a w → ∃ g', Inv E g' s' a w

def RefsB (ks os : List Nat) : List (Nat × List AV) → Prop
  | [] => True
  | (_, cs) :: r => refsL ks os cs = true ∧ RefsB ks os r
theorem refsB_mem {ks os : List Nat} : ∀ {bl : List (Nat × List AV)}, RefsB ks os bl → ∀ p ∈ bl, refsL ks os p.2 = true
  | [], _, p, hp => by simp at hp
  | (k, cs) :: r, h, p, hp => by
    simp only [RefsB] at h
    rcases List.mem_cons.1 hp with rfl | hp
    · exact h.1
    · exact refsB_mem h.2 p hp
theorem refsL_append {ks os : List Nat} : ∀ {xs ys : List AV}, refsL ks os xs = true → refsL ks os ys = true → refsL ks os (xs ++ ys) = true
  | [], ys, _, h => by simpa using h
  | x :: xs, ys, h, h' => by
    simp only [refsL, Bool.and_eq_true] at h
    simp only [List.cons_append, refsL, Bool.and_eq_true]
    exact ⟨h.1, refsL_append h.2 h'⟩
theorem refsL_flat {ks os : List Nat} : ∀ {rows : List (List AV)}, (∀ r ∈ rows, refsL ks os r = true) → refsL ks os rows.flatten = true
  | [], _ => by simp [refsL]
  | r :: rows, h => by
    rw [List.flatten_cons]
    exact refsL_append (h r (by simp)) (refsL_flat fun r' hr => h r' (by simp [hr]))
theorem refs_map {α : Type} {ks os : List Nat} {f : α → List AV} {l : List α} (hf : ∀ p, refsL ks os (f p) = true) : refsL ks os (l.map f).flatten = true := refsL_flat fun r hr => by
  obtain ⟨p, _, rfl⟩ := List.mem_map.1 hr
  exact hf p
theorem refs_fill {α : Type} {ks os : List Nat} {f : α → List AV} {l : List α} {m : Nat} {z : List AV} (hf : ∀ p, refsL ks os (f p) = true) (hz : refsL ks os z = true) : refsL ks os (l.map f ++ List.replicate m z).flatten = true := refsL_flat fun r hr => by
  rcases List.mem_append.1 hr with h | h
  · obtain ⟨p, _, rfl⟩ := List.mem_map.1 h; exact hf p
  · rw [List.eq_of_mem_replicate h]; exact hz
theorem look_mem : ∀ {tm : List (Nat × AV)} {t : Nat}, look tm t = .top ∨ look tm t ∈ tm.map (·.2)
  | [], _ => .inl rfl
  | (k, v) :: r, t => by
    simp only [look]
    cases Nat.beq k t
    · rcases look_mem (tm := r) (t := t) with h | h
      · exact .inl h
      · exact .inr (by simp only [cond_false, List.map_cons]; exact List.mem_cons_of_mem _ h)
    · exact .inr (by simp)
theorem refsL_mem {ks os : List Nat} : ∀ {xs : List AV} {x : AV}, refsL ks os xs = true → x ∈ xs → refs ks os x = true
  | [], x, _, h => by simp at h
  | y :: xs, x, h, hm => by
    simp only [refsL, Bool.and_eq_true] at h
    rcases List.mem_cons.1 hm with rfl | hm
    · exact h.1
    · exact refsL_mem h.2 hm
theorem pick_look {os0 : List Nat} {tm : List (Nat × AV)} : ∀ {l : List (Nat × AV)} {t : Nat}, Pick os0 tm l → look l t = .top ∨ Le os0 (look tm t) (look l t)
  | [], t, _ => .inl rfl
  | (k, v) :: r, t, h => by
    simp only [Pick] at h
    simp only [look]
    cases hb : Nat.beq k t
    · exact pick_look h.2
    · have := Nat.eq_of_beq_eq_true hb
      subst this
      exact .inr h.1
theorem rep_le {g g' : Gh} {w : World} {ks os os0 : List Nat} (hI : g'.I = g.I) (hm : ∀ n b, n ∈ ks → g.m n = some b → g'.m n = some b) (ht : g'.mt = g.mt) (ho : ∀ n, n ∈ os → g.ow n → g'.ow n ∧ g'.om n = g.om n)
    (hn : ∀ n, n ∈ os → n ∉ os0 → g'.ow n ∧ g'.om n = none) {x v : AV} {y : Value} (hl : Le os0 x v) (hr : refs ks os v = true) (h : rep g w x y) : rep g' w v y := by
  cases hl with
  | refl => exact rep_refs hI hm ht ho hr h
  | eq e => subst e; exact rep_refs hI hm ht ho hr h
  | top => simp [rep]
  | nilOwn hnew =>
    rename_i n T e
    simp only [rep] at h ⊢
    subst h
    simp only [refs] at hr
    obtain ⟨k1, k2⟩ := hn n (any_beq hr) (fun hm => by rw [List.any_eq_true.2 ⟨n, hm, by simp⟩] at hnew; cases hnew)
    exact ⟨k1, by rw [k2]; rfl, [], ⟨by simp, .inl ⟨rfl, rfl⟩⟩, by simp [dreps], by simp, fun b hb => by rw [k2] at hb; cases hb⟩
  | nilSl =>
    simp only [rep] at h
    subst h
    simp only [rep, drep]
    exact ⟨none, 0, rfl, .inl trivial, Nat.zero_le _⟩
  | ownSl =>
    simp only [rep] at h ⊢
    rw [hI]; exact drep_of_own h

theorem weak_mk {E : En} {s s' : St} (h1 : Pick s.ow s.tm s'.tm) (h2 : PickB s.ow s.bl s'.bl) (h3 : refsL (s'.bl.map (·.1)) s'.ow (s'.tm.map (·.2)) = true) (h3' : RefsB (s'.bl.map (·.1)) s'.ow s'.bl) (hpin : ∀ n b T, E.pin n b T → n ∈ s'.bl.map (·.1)) : Weak E s s' := by
  intro g a w hi
  let g' : Gh := { I := g.I, m := fun n => if n ∈ s'.bl.map (·.1) then g.m n else none, om := fun n => if n ∈ s.ow then g.om n else none, ow := fun n => n ∈ s'.ow ∧ (g.ow n ∨ n ∉ s.ow), mt := g.mt }
  have hmm : ∀ n b, g'.m n = some b → n ∈ s'.bl.map (·.1) ∧ g.m n = some b := fun n b h => by
    by_cases e : n ∈ s'.bl.map (·.1)
    · exact ⟨e, by simpa only [g', e, if_true] using h⟩
    · simp only [g', e, if_false] at h; cases h
  have hoo : ∀ n b, g'.ow n → g'.om n = some b → g.ow n ∧ g.om n = some b := fun n b h1 h2 => by
    by_cases e : n ∈ s.ow
    · simp only [g', e, if_true] at h2
      exact ⟨h1.2.resolve_right (fun h => h e), h2⟩
    · simp only [g', e, if_false] at h2; cases h2
  have km : ∀ n b, n ∈ s'.bl.map (·.1) → g.m n = some b → g'.m n = some b := fun n b h1 h2 => by simp only [g', h1, if_true]; exact h2
  have ko : ∀ n, n ∈ s'.ow → g.ow n → g'.ow n ∧ g'.om n = g.om n := fun n h1 h2 => ⟨⟨h1, .inl h2⟩, by simp only [g', hi.mem.own n h2, if_true]⟩
  have kn : ∀ n, n ∈ s'.ow → n ∉ s.ow → g'.ow n ∧ g'.om n = none := fun n h1 h2 => ⟨⟨h1, .inr h2⟩, by simp only [g', h2, if_false]⟩
  have bls : ∀ (l : List (Nat × List AV)), PickB s.ow s.bl l → ∀ n cs, (n, cs) ∈ l → ∃ cs0, lookB s.bl n = some cs0 ∧ Les s.ow cs0 cs := by
    intro l
    induction l with
    | nil => intro _ n cs h; simp at h
    | cons p l ih =>
      intro hp n cs h
      obtain ⟨k, c⟩ := p
      simp only [PickB] at hp
      rcases List.mem_cons.1 h with h | h
      · cases h
        exact hp.1
      · exact ih hp.2 n cs h
  have repsLe : ∀ {cs0 cs : List AV} {ys : List Value}, Les s.ow cs0 cs → refsL (s'.bl.map (·.1)) s'.ow cs = true → reps g w cs0 ys → reps g' w cs ys := by
    intro cs0 cs ys hl
    induction hl generalizing ys with
    | nil => intro _ h; simpa [reps] using h
    | cons hx hxs ih =>
      intro hr h
      simp only [refsL, Bool.and_eq_true] at hr
      simp only [reps] at h ⊢
      obtain ⟨y, zs, e, k1, k2⟩ := h
      exact ⟨y, zs, e, rep_le (g := g) (g' := g') rfl km rfl ko kn hx hr.1 k1, ih hr.2 k2⟩
  refine ⟨g', ⟨?_, fun t => ?_, hi.de, hi.sz⟩⟩
  · refine ⟨hi.mem.below, hi.mem.base, hi.mem.cell, fun n b h => hi.mem.mfr n b (hmm n b h).2, fun n b h1 h2 => hi.mem.ofr n b (hoo n b h1 h2).1 (hoo n b h1 h2).2, fun n n' b h1 h2 => hi.mem.minj n n' b (hmm n b h1).2 (hmm n' b h2).2,
      fun n n' b h1 h2 h3 h4 => hi.mem.oinj n n' b (hoo n b h1 h3).1 (hoo n' b h2 h4).1 (hoo n b h1 h3).2 (hoo n' b h2 h4).2, fun n n' b h1 h2 h3 => hi.mem.disj n n' b (hmm n b h1).2 (hoo n' b h2 h3).1 (hoo n' b h2 h3).2, fun n cs h => ?_, fun n b h => ?_, fun n h => h.1, hi.mem.inew, hi.mem.iold, fun n b T h => ⟨km n b (hpin n b T h) (hi.mem.pin n b T h).1, (hi.mem.pin n b T h).2⟩⟩
    · obtain ⟨cs0, e1, e2⟩ := bls _ h2 n cs h
      obtain ⟨b, arr, k1, k2, k3, k4⟩ := hi.mem.blk n cs0 (lookB_mem e1)
      exact ⟨b, arr, km n b (List.mem_map.2 ⟨_, h, rfl⟩) k1, k2, repsLe e2 (refsB_mem h3' _ h) k3, k4⟩
    · obtain ⟨h1, _⟩ := hmm n b h
      obtain ⟨p, hp, rfl⟩ := List.mem_map.1 h1
      exact ⟨p.2, hp⟩
  · rcases pick_look (t := t) h1 with h | h
    · rw [h]; simp [rep]
    · rcases look_mem (tm := s'.tm) (t := t) with h6 | h6
      · rw [h6]; simp [rep]
      · exact rep_le (g := g) (g' := g') rfl km rfl ko kn h (refsL_mem h3 h6) (hi.tm t)

theorem Weak.refl {E : En} (s : St) : Weak E s s := fun g _ _ hi => ⟨g, hi⟩
def loopQ (E : En) (R : Nat → St → Prop) (n : Nat) (Q : Exit → St → Prop) : Exit → St → Prop
  | .normal, s => ∃ n' s', n' < n ∧ R n' s' ∧ Weak E s s'
  | e, s => Q e s
theorem W_loop {E : En} {c : Code} {Q : Exit → St → Prop} {s : St} (R : Nat → St → Prop) (h0 : ∃ n s', R n s' ∧ Weak E s s') (round : ∀ n s, R n s → W E c (loopQ E R n Q) s) : W E (.loop c) Q s := by
  intro g a w hi
  obtain ⟨n, s', hR, hw⟩ := h0
  obtain ⟨g', hi'⟩ := hw g a w hi
  intro b k cs hro hb hr
  have key : ∀ n g s a w, R n s → Inv E g s a w → ∃ e a' w', post E Q e a' w' ∧ ArrivesIn (Machine.fenced E.P (fo E.rd)) E.P (lone (b.atR a (.code c :: .inLoop c :: k)) cs w) b k cs e a' w' := by
    intro n
    induction n using Nat.strongRecOn with
    | _ n ih =>
      intro g s a w hR hI
      obtain ⟨e, a₁, w₁, hq, harr⟩ := round n s hR g a w hI b (.inLoop c :: k) cs hro hb hr
      obtain ⟨g₁, s₁, hq, hi₁⟩ := hq
      cases e with
      | normal =>
        obtain ⟨n', s', hlt, hR', hw'⟩ := hq
        obtain ⟨g₂, hi₂⟩ := hw' g₁ a₁ w₁ hi₁
        obtain ⟨e₂, a₂, w₂, hq₂, harr₂⟩ := ih n' hlt g₂ s' a₁ w₁ hR' hi₂
        exact ⟨e₂, a₂, w₂, hq₂, .of_steps (StepsIn.trans harr (.one (fenced_calm hb hr rfl) stepR_inLoop)) harr₂⟩
      | exit id => exact ⟨_, a₁, w₁, ⟨g₁, s₁, hq, hi₁⟩, .pass (x := .inLoop c) rfl (fun _ _ => .inl (by simp)) harr⟩
      | goto l => exact ⟨_, a₁, w₁, ⟨g₁, s₁, hq, hi₁⟩, .pass (x := .inLoop c) rfl (fun _ _ => .inl (by simp)) harr⟩
      | ret => exact ⟨_, a₁, w₁, ⟨g₁, s₁, hq, hi₁⟩, .pass (x := .inLoop c) rfl (fun _ _ => .inl (by simp)) harr⟩
      | panic ch => exact ⟨_, a₁, w₁, ⟨g₁, s₁, hq, hi₁⟩, .pass (x := .inLoop c) rfl (fun _ _ => .inl (by simp)) harr⟩
      | outgrown => exact ⟨_, a₁, w₁, ⟨g₁, s₁, hq, hi₁⟩, .pass (x := .inLoop c) rfl (fun _ _ => .inl (by simp)) harr⟩
  obtain ⟨e, a', w', hq, harr⟩ := key n g' s' a w hR hi'
  exact ⟨e, a', w', hq, .of_steps (.one (fenced_calm hb hr rfl) stepR_loop) harr⟩

structure Ret (I : Nat → Nat → Prop) (w : World) (g' : Gh) (w' : World) : Prop where
  below : BelowM w.heap.size (fun _ => False) w w'
  old : ∀ b o, I b o → g'.I b o
  new : ∀ b o, g'.I b o → I b o ∨ w.heap.size ≤ b
  cell : ∀ b o, g'.I b o → (w'.cell? ⟨b, o, none⟩).isSome = true
  own : ∀ n b, g'.ow n → g'.om n = some b → w.heap.size ≤ b ∧ b < w'.heap.size
  inj : ∀ n n' b, g'.ow n → g'.ow n' → g'.om n = some b → g'.om n' = some b → n = n'

def CallOk (P : Program) (f : Nat) (args : List AV) (R : AV → Prop) : Prop :=
  ∀ (I : Nat → Nat → Prop) (w : World) (vals : Array Value), (∀ b o, I b o → (w.cell? ⟨b, o, none⟩).isSome = true) → dreps I w args vals.toList →
    Calls P f vals w fun e w' => ∃ y r g', e = .returned y ∧ R r ∧ rep g' w' r y ∧ Ret I w g' w'

def resA (P : Program) (s : St) : List ResultVar → List AV → Prop
  | [], xs => xs = []
  | .tmp t :: r, xs => ∃ ys, xs = look s.tm t :: ys ∧ resA P s r ys
  | .cell a t :: r, xs => ∃ v ys ag sz n o cs, xs = v :: ys ∧ TyOk P t ag sz ∧ look s.tm a = .ptr n o ∧ lookB s.bl n = some cs ∧ aload ag sz (cs.drop o) = some v ∧ resA P s r ys
theorem resA_tmp {P : Program} {s : St} {t : Nat} {r : List ResultVar} {x : AV} {ys : List AV} (h : look s.tm t = x) (hr : resA P s r ys) : resA P s (.tmp t :: r) (x :: ys) := ⟨ys, by rw [h], hr⟩
theorem resA_cell {P : Program} {s : St} {a t : Nat} {r : List ResultVar} {v : AV} {ys : List AV} {ag : Bool} {sz n o : Nat} {cs : List AV} [ht : TyOk P t ag sz] (h : look s.tm a = .ptr n o) (hb : lookB s.bl n = some cs) (hl : aload ag sz (cs.drop o) = some v) (hr : resA P s r ys) : resA P s (.cell a t :: r) (v :: ys) :=
  ⟨v, ys, ag, sz, n, o, cs, rfl, ht, h, hb, hl, hr⟩
def oneA : List AV → AV
  | [x] => x
  | xs => .tup xs
def retQ (E : En) (rs : List ResultVar) (R : AV → Prop) : Exit → St → Prop
  | .normal, s => ∃ s', Weak E s s' ∧ ∃ xs, resA E.P s' rs xs ∧ R (oneA xs) ∧ refs [] s'.ow (oneA xs) = true
  | .ret, s => ∃ s', Weak E s s' ∧ ∃ xs, resA E.P s' rs xs ∧ R (oneA xs) ∧ refs [] s'.ow (oneA xs) = true
  | _, _ => False

theorem load_block {E : En} {g : Gh} {bl : List (Nat × List AV)} {ow : List Nat} {w : World} (hm : Mem E g bl ow w) {t n o sz : Nat} {ag : Bool} {cs : List AV} {v : AV} (ht : TyOk E.P t ag sz) (hb : (n, cs) ∈ bl) {y : Value} (hy : rep g w (.ptr n o) y) (h : aload ag sz (cs.drop o) = some v) :
    ∃ u, (do loadVar t (← asAddr y) : Sem Value).run E.P w = .ok u w ∧ rep g w v u := by
  simp only [rep] at hy
  obtain ⟨b, h1, rfl⟩ := hy
  obtain ⟨b', arr, e1, e2, e3, e4⟩ := hm.blk n cs hb
  have : b' = b := by rw [h1] at e1; exact (Option.some.inj e1).symm
  subst this
  have hd := reps_drop (k := o) e3
  have hc : ∀ j z, (arr.toList.drop o)[j]? = some z → w.cell? ⟨b', o + j, none⟩ = some z := fun j z hj => by
    rw [cell_of_heap e2]; simpa [List.getElem?_drop] using hj
  have hlen := reps_length hd
  cases ag
  · simp only [aload, cond_false, List.head?_eq_getElem?] at h
    obtain ⟨u, hu, hr⟩ := reps_get hd h
    have hc0 := hc 0 u hu
    rw [Nat.add_zero] at hc0
    exact ⟨u, by simp [asAddr, loadVar, ht.ag, run_load, hc0], hr⟩
  · simp only [aload, cond_true] at h
    cases hle : Nat.ble sz (cs.drop o).length
    · rw [hle] at h; cases h
    · rw [hle] at h
      simp only [cond_true, Option.some.injEq] at h
      subst h
      have hle' : sz ≤ (arr.toList.drop o).length := by rw [hlen]; exact Nat.le_of_ble_eq_true hle
      have := run_loadVar (P := E.P) (w := w) ht hc hle' (fun h => by cases h)
      refine ⟨.agg ((arr.toList.drop o).take sz).toArray, by simp [asAddr, this], ?_⟩
      simp only [rep]
      exact ⟨_, rfl, reps_take hd⟩
theorem run_results {E : En} {g : Gh} {s : St} {a : Act} {w : World} (hi : Inv E g s a w) {fn : Func} {xs : List AV} (h : resA E.P s fn.results.toList xs) : ∃ y, (results fn a.tmps).run E.P w = .ok y w ∧ rep g w (oneA xs) y := by
  have hrun : ∃ vs : Array Value, reps g w xs vs.toList ∧ ∀ F : ResultVar → Sem Value, (∀ t, F (.tmp t) = pure (a.tmps.getD t undef)) → (∀ c t, F (.cell c t) = do loadVar t (← asAddr (a.tmps.getD c undef))) → (fn.results.mapM F).run E.P w = .ok vs w := by
    have : ∀ (rs : List ResultVar) (xs : List AV), resA E.P s rs xs → ∃ vs, reps g w xs vs ∧ ∀ F : ResultVar → Sem Value, (∀ t, F (.tmp t) = pure (a.tmps.getD t undef)) → (∀ c t, F (.cell c t) = do loadVar t (← asAddr (a.tmps.getD c undef))) → (rs.mapM F).run E.P w = .ok vs w := by
      intro rs
      induction rs with
      | nil => intro xs h; simp only [resA] at h; subst h; exact ⟨[], by simp [reps], fun _ _ _ => rfl⟩
      | cons r rs ih =>
        intro xs h
        cases r with
        | tmp t =>
          simp only [resA] at h
          obtain ⟨ys, rfl, hr⟩ := h
          obtain ⟨vs, h2, h1⟩ := ih ys hr
          refine ⟨a.tmps.getD t undef :: vs, ?_, fun F hF hG => ?_⟩
          · simp only [reps]; exact ⟨_, _, rfl, hi.tm t, h2⟩
          · simp only [List.mapM_cons, hF, Sem.run_bind, Sem.run_pure, Result.andThen_ok, h1 F hF hG]
        | cell c t =>
          simp only [resA] at h
          obtain ⟨v, ys, ag, sz, n, o, cs, rfl, ht, k1, k2, k3, hr⟩ := h
          obtain ⟨vs, h2, h1⟩ := ih ys hr
          have hc := hi.tm c
          rw [k1] at hc
          obtain ⟨u, h3, h4⟩ := load_block hi.mem ht (lookB_mem k2) hc k3
          refine ⟨u :: vs, ?_, fun F hF hG => ?_⟩
          · simp only [reps]; exact ⟨_, _, rfl, h4, h2⟩
          · rw [List.mapM_cons, hG, Sem.run_bind, h3]
            simp only [Result.andThen_ok, Sem.run_bind, h1 F hF hG, Sem.run_pure]
    obtain ⟨vs, h1, h2⟩ := this _ _ h
    exact ⟨vs.toArray, by simpa using h1, fun F hF hG => by rw [Array.mapM_eq_mapM_toList, Sem.run_map, h2 F hF hG]; rfl⟩
  unfold results
  rw [Sem.run_bind]
  obtain ⟨vs, hr, h1⟩ := hrun
  rw [h1 _ (fun t => rfl) (fun c t => rfl)]
  simp only [Result.andThen_ok, Sem.run_pure]
  have hl := reps_length hr
  match xs, hr, hl with
  | [], hr, hl => exact ⟨.tuple vs, by simp at hl; simp [hl], by simp only [oneA, rep]; exact ⟨vs, rfl, hr⟩⟩
  | [x], hr, hl =>
    simp only [reps] at hr
    obtain ⟨y, zs, e, k1, rfl⟩ := hr
    have : vs = #[y] := by apply Array.ext'; simpa using e
    subst this
    exact ⟨y, by simp, by simpa only [oneA] using k1⟩
  | x :: x' :: xs, hr, hl =>
    have : vs.size ≠ 1 := by simp at hl; omega
    exact ⟨.tuple vs, by simp [this], by simp only [oneA, rep]; exact ⟨vs, rfl, hr⟩⟩

theorem look_zip : ∀ (xs : List AV) (k t : Nat), look ((xs.zipIdx k).map fun p => (p.2, p.1)) t = if k ≤ t then xs.getD (t - k) .top else .top
  | [], k, t => by simp [look]
  | x :: xs, k, t => by
    simp only [List.zipIdx_cons, List.map_cons, look, look_zip xs (k + 1) t]
    by_cases h : k = t
    · subst h; simp
    · have hb : Nat.beq k t = false := by
        cases hb : Nat.beq k t
        · rfl
        · exact absurd (Nat.eq_of_beq_eq_true hb) h
      rw [hb]
      simp only [cond_false]
      by_cases h2 : k ≤ t
      · rw [if_pos (by omega), if_pos h2, show t - k = (t - (k + 1)) + 1 by omega, List.getD_cons_succ]
      · rw [if_neg (by omega), if_neg h2]

theorem CallOk_of_W {P : Program} {f nt : Nat} {fn : Func} {rs : Array ResultVar} {c : Code} {args : List AV} {R : AV → Prop} (hf : P.funcs[f]? = some fn) (hnt : fn.ntmps = nt) (hrs : fn.results = rs) (hb : fn.body = some c) (hn : args.length ≤ nt)
    (h : ∀ (B : Nat) (w0 : World) (I0 : Nat → Nat → Prop), W ⟨P, B, w0, nt, fun _ => False, [], I0, fun _ _ _ => False, none, []⟩ c (retQ ⟨P, B, w0, nt, fun _ => False, [], I0, fun _ _ _ => False, none, []⟩ rs.toList R) ⟨(args.zipIdx 0).map fun p => (p.2, p.1), [], []⟩) : CallOk P f args R := by
  subst hnt; subst hrs
  intro I w vals hI hargs
  let E : En := ⟨P, w.heap.size, w, fn.ntmps, fun _ => False, [], I, fun _ _ _ => False, none, []⟩
  let g : Gh := ⟨I, fun _ => none, fun _ => none, fun _ => False, fun _ => 0⟩
  have hlen := dreps_length hargs
  have hargs' : reps g w args vals.toList := reps_of_dreps hargs
  refine calls_of_wp hf hb ?_
  refine wp_W (h w.heap.size w I g _ w ⟨⟨BelowM.refl _ _ _, Nat.le_refl _, hI, fun n b h => by simp [g] at h, fun n b h => by simp [g] at h, fun n n' b h => by simp [g] at h, fun n n' b h => by simp [g] at h, fun n n' b h => by simp [g] at h,
    fun n cs h => by simp at h, fun n b h => by simp [g] at h, fun n h => by simp [g] at h, fun b o h => .inl h, fun b o h => h, fun n b T h => h.elim⟩, fun t => ?_, rfl, ?_⟩) fun e a' w' hq => ?_
  · simp only [look_zip, Nat.zero_le, if_true, Nat.sub_zero]
    rcases Nat.lt_or_ge t args.length with h1 | h1
    · obtain ⟨y, hy, hr⟩ := reps_get hargs' (List.getElem?_eq_getElem h1)
      have : t < vals.size := by simpa [← hlen] using h1
      have hy' : vals[t] = y := by simpa [this] using hy
      simp only [List.getD_eq_getElem?_getD, List.getElem?_eq_getElem h1, Option.getD_some]
      simp only [Array.getD_eq_getD_getElem?, Array.getElem?_append_left this, Array.getElem?_eq_getElem this, Option.getD_some, hy']
      exact hr
    · simp only [List.getD_eq_getElem?_getD, List.getElem?_eq_none h1, Option.getD_none, rep]
  · have : vals.size = args.length := by simpa using hlen
    simp; omega
  · obtain ⟨g', s', hq, hi⟩ := hq
    have fin : ∀ s1, Weak E s' s1 → ∀ xs, resA P s1 fn.results.toList xs → R (oneA xs) → refs [] s1.ow (oneA xs) = true → a'.defers = [] ∧ ∃ v, (results fn a'.tmps).run P w' = .ok v w' ∧ ∃ y r g', Ending.returned v = .returned y ∧ R r ∧ rep g' w' r y ∧ Ret I w g' w' := by
      intro s1 hw xs h1 h2 h3
      obtain ⟨g', hi⟩ := hw _ _ _ hi
      obtain ⟨y, k1, k2⟩ := run_results hi h1
      let g2 : Gh := { g' with m := fun _ => none }
      refine ⟨hi.de, y, k1, y, oneA xs, g2, rfl, h2, rep_refs (g := g') (g' := g2) rfl (fun n b hn => by simp at hn) rfl (fun n _ h => ⟨h, rfl⟩) h3 k2, ?_⟩
      exact ⟨⟨hi.mem.below.os, hi.mem.below.tape, hi.mem.below.output, hi.mem.below.size, hi.mem.below.block⟩, hi.mem.iold, fun b o h => (hi.mem.inew b o h).imp id (fun h => h.resolve_right (fun h => h)), hi.mem.cell, fun n b h1 h2 => ⟨(hi.mem.ofr n b h1 h2).1.resolve_right (fun h => h), (hi.mem.ofr n b h1 h2).2⟩, hi.mem.oinj⟩
    cases e with
    | normal => obtain ⟨s1, hw, xs, h1, h2, h3⟩ := hq; exact fin s1 hw xs h1 h2 h3
    | ret => obtain ⟨s1, hw, xs, h1, h2, h3⟩ := hq; exact fin s1 hw xs h1 h2 h3
    | _ => exact hq.elim

class FnOk (P : Program) (f : Nat) : Prop where
  ok : ∃ fn, P.funcs[f]? = some fn ∧ (fn.name == "runtime.NumGoroutine") = false ∧ fn.body.isNone = false

inductive LeD : AV → AV → Prop where
  | v {x : Value} : LeD (.v x) (.v x)
  | top {x : AV} : LeD x .top
  | sl {e : Nat} {rows : List (List AV)} : LeD (.sl e rows) (.sl e rows)
  | own {n T e : Nat} {rows : List (List AV)} : LeD (.own n T e rows) (.sl e rows)
  | nil {e : Nat} : LeD (.v (.slice none 0 0)) (.sl e [])
inductive LeDs : List AV → List AV → Prop where
  | nil : LeDs [] []
  | cons {x y : AV} {xs ys : List AV} (h : LeD x y) (hs : LeDs xs ys) : LeDs (x :: xs) (y :: ys)
  | agg {cs ds xs ys : List AV} (h : LeDs cs ds) (hs : LeDs xs ys) : LeDs (.agg cs :: xs) (.agg ds :: ys)
theorem drep_leD {g : Gh} {w : World} {x y : AV} {v : Value} (h : LeD x y) (hr : rep g w x v) : drep g.I w y v := by
  cases h with
  | v => simpa [rep, drep] using hr
  | top => simp [drep]
  | sl => simpa only [rep] using hr
  | own => simp only [rep] at hr; exact drep_of_own hr
  | nil =>
    simp only [rep] at hr
    subst hr
    simp only [drep]
    exact ⟨none, 0, rfl, .inl trivial, Nat.zero_le _⟩
theorem dreps_leDs {g : Gh} {w : World} {xs ys : List AV} (h : LeDs xs ys) : ∀ {vs : List Value}, reps g w xs vs → dreps g.I w ys vs := by
  induction h with
  | nil => intro vs hr; simpa [reps, dreps] using hr
  | cons h hs ih =>
    intro vs hr
    simp only [reps] at hr
    obtain ⟨y, zs, e, h1, h2⟩ := hr
    simp only [dreps]
    exact ⟨y, zs, e, drep_leD h h1, ih h2⟩
  | agg h hs ih1 ih2 =>
    intro vs hr
    simp only [reps, rep] at hr
    obtain ⟨y, zs, e, ⟨a, e2, h1⟩, h2⟩ := hr
    simp only [dreps, drep]
    exact ⟨y, zs, e, ⟨a, e2, ih1 h1⟩, ih2 h2⟩

mutual
def ren (k : Nat) : AV → AV
  | .agg cs => .agg (renL k cs)
  | .tup cs => .tup (renL k cs)
  | .own n T e rows => .own (k + n) T e rows
  | x => x
def renL (k : Nat) : List AV → List AV
  | [] => []
  | x :: xs => ren k x :: renL k xs
end
/- No pointers, no functions in a result; its own slices' names. -/
mutual
def ownsIn (os : List Nat) : AV → Bool
  | .agg cs => ownsInL os cs
  | .tup cs => ownsInL os cs
  | .own n _ _ _ => os.any (Nat.beq n)
  | .ptr .. => false
  | .fn .. => false
  | .arr .. => false
  | _ => true
def ownsInL (os : List Nat) : List AV → Bool
  | [] => true
  | x :: xs => ownsIn os x && ownsInL os xs
end
mutual
theorem rep_ren {g' gc : Gh} {w : World} {k : Nat} {os : List Nat} (hI : gc.I = g'.I) (ho : ∀ n, n ∈ os → g'.ow n → gc.ow (k + n) ∧ gc.om (k + n) = g'.om n) : ∀ {x : AV} {y : Value}, ownsIn os x = true → rep g' w x y → rep gc w (ren k x) y
  | .top, _, _, _ => by simp [ren, rep]
  | .v x, y, _, h => by simpa [ren, rep] using h
  | .agg cs, y, hr, h => by
    simp only [rep, ownsIn, ren] at h hr ⊢
    obtain ⟨a, e, h⟩ := h
    exact ⟨a, e, reps_ren hI ho hr h⟩
  | .tup cs, y, hr, h => by
    simp only [rep, ownsIn, ren] at h hr ⊢
    obtain ⟨a, e, h⟩ := h
    exact ⟨a, e, reps_ren hI ho hr h⟩
  | .sl e rows, y, _, h => by
    simp only [rep, ren] at h ⊢
    rw [hI]; exact h
  | .own n T e rows, y, hr, h => by
    simp only [rep, ownsIn, ren] at h hr ⊢
    obtain ⟨h1, h2, xs, h3, h4, h5, h6⟩ := h
    obtain ⟨k1, k2⟩ := ho n (any_beq hr) h1
    exact ⟨k1, h2.trans k2.symm, xs, h3, by rw [hI]; exact h4, h5, by rw [k2, hI]; exact h6⟩
  | .ptr n off, y, hr, h => by simp [ownsIn] at hr
  | .eptr cs, y, _, h => by
    simp only [rep, ren] at h ⊢
    rw [hI]; exact h
  | .fn f fs cs, y, hr, h => by simp [ownsIn] at hr
  | .arr n T e len, y, hr, h => by simp [ownsIn] at hr
theorem reps_ren {g' gc : Gh} {w : World} {k : Nat} {os : List Nat} (hI : gc.I = g'.I) (ho : ∀ n, n ∈ os → g'.ow n → gc.ow (k + n) ∧ gc.om (k + n) = g'.om n) : ∀ {xs : List AV} {ys : List Value}, ownsInL os xs = true → reps g' w xs ys → reps gc w (renL k xs) ys
  | [], ys, _, h => by simpa [reps, renL] using h
  | x :: xs, ys, hr, h => by
    simp only [reps, ownsInL, renL, Bool.and_eq_true] at h hr ⊢
    obtain ⟨y, zs, e, h1, h2⟩ := h
    exact ⟨y, zs, e, rep_ren hI ho hr.1 h1, reps_ren hI ho hr.2 h2⟩
end

theorem Mem.called {E : En} {g g' : Gh} {bl : List (Nat × List AV)} {ow : List Nat} {w w' : World} (h : Mem E g bl ow w) (hr : Ret g.I w g' w') (k : Nat) (os : List Nat) (hf : ∀ n ∈ os, k + n ∉ ow) :
    ∃ gc, Goes g w gc w' ∧ Mem E gc bl (os.map (k + ·) ++ ow) w' ∧ gc.I = g'.I ∧ ∀ n, n ∈ os → g'.ow n → gc.ow (k + n) ∧ gc.om (k + n) = g'.om n := by
  let gc : Gh := { I := g'.I, m := g.m, om := fun j => if j ∈ ow then g.om j else g'.om (j - k), ow := fun j => g.ow j ∨ (j ∉ ow ∧ ∃ n ∈ os, j = k + n ∧ g'.ow n), mt := g.mt }
  have heap : ∀ b, b < w.heap.size → w'.heap[b]? = w.heap[b]? := fun b hb => hr.below.block b hb (fun h => h)
  have hIlt : ∀ b o, g.I b o → b < w.heap.size := fun b o hb => cell_lt (h.cell b o hb)
  have keeps : Keeps g.I w w' := fun b o hb => World.cell?_of_block (a := ⟨b, o, none⟩) (heap b (hIlt b o hb))
  have how : ∀ j, g.ow j → gc.ow j ∧ gc.om j = g.om j := fun j hj => ⟨.inl hj, by simp only [gc, h.own j hj, if_true]⟩
  have hI2 : ∀ b o, b < w.heap.size → g'.I b o → g.I b o := fun b o hb hI => (hr.new b o hI).resolve_right (by omega)
  have hoc : ∀ j b, gc.ow j → gc.om j = some b → (g.ow j ∧ g.om j = some b) ∨ (∃ n ∈ os, j = k + n ∧ g'.ow n ∧ g'.om n = some b) := by
    intro j b h1 h2
    rcases h1 with h1 | ⟨h1, n, hn, rfl, h3⟩
    · exact .inl ⟨h1, by rw [(how j h1).2] at h2; exact h2⟩
    · simp only [gc, h1, if_false, Nat.add_sub_cancel_left] at h2
      exact .inr ⟨n, hn, rfl, h3, h2⟩
  have goes : Goes g w gc w' := ⟨hr.old, keeps, fun _ _ h => h, fun _ _ _ => rfl, fun n T e rows y hy => ownRep_goes (g := g) (g' := gc) hr.old keeps how (fun n b h1 h2 => heap b (h.ofr n b h1 h2).2) (fun n b o h1 h2 h3 => hI2 b o (h.ofr n b h1 h2).2 h3) hy, fun _ b _ _ _ hc => hc.same (heap b hc.lt)⟩
  refine ⟨gc, goes, ?_, rfl, fun n hn h1 => ⟨.inr ⟨hf n hn, n, hn, rfl, h1⟩, by simp only [gc, hf n hn, if_false, Nat.add_sub_cancel_left]⟩⟩
  have hsz := hr.below.size
  refine { below := ⟨hr.below.os.trans h.below.os, hr.below.tape.trans h.below.tape, hr.below.output.trans h.below.output, Nat.le_trans h.below.size hsz, fun j hj hM => (heap j (Nat.lt_of_lt_of_le hj h.base)).trans (h.below.block j hj hM)⟩,
           base := Nat.le_trans h.base hsz, cell := hr.cell, mfr := fun n b hn => ⟨(h.mfr n b hn).1, Nat.lt_of_lt_of_le (h.mfr n b hn).2 hsz⟩, ofr := ?_, minj := h.minj, oinj := ?_, disj := ?_, blk := ?_, key := h.key, own := ?_, inew := ?_, iold := fun b o hb => hr.old b o (h.iold b o hb), pin := h.pin }
  · intro j b h1 h2
    rcases hoc j b h1 h2 with ⟨h3, h4⟩ | ⟨n, _, _, h3, h4⟩
    · exact ⟨(h.ofr j b h3 h4).1, Nat.lt_of_lt_of_le (h.ofr j b h3 h4).2 hsz⟩
    · have := hr.own n b h3 h4
      exact ⟨.inl (Nat.le_trans h.base this.1), this.2⟩
  · intro j j' b h1 h1' h2 h2'
    rcases hoc j b h1 h2 with ⟨h3, h4⟩ | ⟨n, _, rfl, h3, h4⟩ <;> rcases hoc j' b h1' h2' with ⟨h5, h6⟩ | ⟨n', _, rfl, h5, h6⟩
    · exact h.oinj j j' b h3 h5 h4 h6
    · have h7 := (h.ofr j b h3 h4).2; have h8 := (hr.own n' b h5 h6).1; omega
    · have h7 := (h.ofr j' b h5 h6).2; have h8 := (hr.own n b h3 h4).1; omega
    · rw [hr.inj n n' b h3 h5 h4 h6]
  · intro j j' b h1 h2 h3
    rcases hoc j' b h2 h3 with ⟨h4, h5⟩ | ⟨n, _, rfl, h4, h5⟩
    · exact h.disj j j' b h1 h4 h5
    · have h7 := (h.mfr j b h1).2; have h8 := (hr.own n b h4 h5).1; omega
  · intro n cs hn
    obtain ⟨b, arr, h1, h2, h3, h4⟩ := h.blk n cs hn
    have hb := (h.mfr n b h1).2
    exact ⟨b, arr, h1, (heap b hb).trans h2, reps_goes goes h3, fun o ho => h4 o (hI2 b o hb ho)⟩
  · intro j hj
    rcases hj with hj | ⟨_, n, hn, rfl, _⟩
    · exact List.mem_append_right _ (h.own j hj)
    · exact List.mem_append_left _ (List.mem_map.2 ⟨n, hn, rfl⟩)
  · intro b o hb
    rcases hr.new b o hb with h1 | h1
    · exact h.inew b o h1
    · exact .inr (.inl (Nat.le_trans h.base h1))

section
variable {E : En} {bl : List (Nat × List AV)} {tm : List (Nat × AV)} {d : Option Tmp} {ty : TypeId} {pos : String} {af : Array Edge} {gd : Option (Nat × Bool)}
theorem QV_call {x : Operand} {xs : Array Operand} {ts : Array TypeId} {f : Nat} {ys : List AV} {r : AV} (k : Nat) (os : List Nat) [hf : FnOk E.P f] (h : CallOk E.P f ys (fun r' => r' = r)) (hx : ev tm x = .v (.func (.func f) #[] #[])) (ha : LeDs (xs.toList.map (ev tm)) ys) (ho : ownsIn os r = true) :
    QV E bl tm ⟨d, .call ⟨.value x, xs, ts⟩, ty, pos, af, gd⟩ (ren k r) [] (os.map (k + ·)) := by
  intro g w ρ bl' ow' hm hbl _ hno hop
  have h1 := hop x (by simp [Op.operands, Call.operands])
  have h2 : reps g w (xs.toList.map (ev tm)) (xs.toList.map ρ) := reps_map _ fun y hy => hop y (by simp [Op.operands, Call.operands] at hy ⊢; exact .inr hy)
  rw [hx] at h1
  simp only [rep] at h1
  obtain ⟨fn, f1, f2, f3⟩ := hf.ok
  have f2' : fn.name ≠ "runtime.NumGoroutine" := by simpa using f2
  have f3' : fn.body ≠ none := fun e => by rw [e] at f3; simp at f3
  have hrun : (execOp ρ ⟨d, .call ⟨.value x, xs, ts⟩, ty, pos, af, gd⟩).run E.P w = .ok (.enter f (xs.map ρ)) w := by
    simp [execOp, resolve, Deferred.ofValue, h1, invoke, callFunc, f1, f2', f3']
  rw [hrun]
  have hc := h g.I w (xs.map ρ) hm.cell (by rw [Array.toList_map]; exact dreps_leDs ha h2)
  refine hc.mono fun e w' he => ?_
  obtain ⟨y, r', g', rfl, rfl, h3, h4⟩ := he
  obtain ⟨gc, h5, h6, h7, h8⟩ := hm.called h4 k os (fun n hn => hno _ (List.mem_map.2 ⟨n, hn, rfl⟩))
  exact ⟨y, rfl, gc, h5, by simpa using h6, rep_ren h7 h8 ho h3⟩
end
end Go.Eng

namespace Go.Eng
open Go

theorem fold_set : ∀ (l : List Value) (k off : Nat) (cs : Array Value), off + k + l.length ≤ cs.size → ((l.zipIdx k).foldl (fun cs p => cs.setIfInBounds (off + p.2) p.1) cs).toList = cs.toList.take (off + k) ++ (l ++ cs.toList.drop (off + k + l.length))
  | [], k, off, cs, _ => by simp
  | v :: rest, k, off, cs, h => by
    simp only [List.zipIdx_cons, List.foldl_cons]
    rw [fold_set rest (k + 1) off _ (by simp at h ⊢; omega)]
    have := list_seg_step cs.toList (off + k) v rest (by simp at h ⊢; omega)
    simp only [Array.toList_setIfInBounds]
    rw [show off + (k + 1) = off + k + 1 by omega, ← List.append_assoc, this]
    simp [List.append_assoc, Nat.add_assoc, Nat.add_comm]

def splice (l : List AV) (off : Nat) (cs : List AV) : List AV := l.take off ++ (cs ++ l.drop (off + cs.length))
def abuild (pl : Nat → Option (Nat × Nat)) : List AV → List (Nat × AV) → Option (List AV)
  | z, [] => some z
  | z, (i, v) :: r => match pl i with
    | none => none
    | some (off, size) => bif Nat.beq (acells v).length size && (Nat.ble (off + size) z.length && isC v) then abuild pl (splice z off (acells v)) r else none
theorem cells_length {g : Gh} {w : World} {x : AV} {y : Value} (h : rep g w x y) (hc : isC x = true) : y.cells.size = (acells x).length := by
  have := reps_length (reps_cellsC h hc)
  simpa using this
theorem reps_splice {g : Gh} {w : World} {zs ls : List AV} {ys ks : List Value} {off : Nat} (h : reps g w zs ys) (h' : reps g w ls ks) : reps g w (splice zs off ls) (ys.take off ++ (ks ++ ys.drop (off + ks.length))) := by
  unfold splice
  rw [reps_length h']
  exact reps_append (reps_take h) (reps_append h' (reps_drop h))
theorem fill_abuild {g : Gh} {w : World} {pl : Nat → Option (Nat × Nat)} : ∀ (parts : List (Nat × AV)) (vs : List (Nat × Value)) (z : List AV) (zs : Array Value) (out : List AV), parts.map (·.1) = vs.map (·.1) → reps g w (parts.map (·.2)) (vs.map (·.2)) → reps g w z zs.toList → abuild pl z parts = some out →
    ∃ cs, Instr.fill pl zs vs = some cs ∧ reps g w out cs.toList
  | [], vs, z, zs, out, h1, _, h3, h4 => by
    cases vs with
    | nil => simp only [abuild, Option.some.injEq] at h4; subst h4; exact ⟨zs, rfl, h3⟩
    | cons v vs => simp at h1
  | (i, v) :: r, vs, z, zs, out, h1, h2, h3, h4 => by
    cases vs with
    | nil => simp at h1
    | cons p vs =>
      obtain ⟨j, u⟩ := p
      simp only [List.map_cons, List.cons.injEq] at h1
      obtain ⟨rfl, h1⟩ := h1
      simp only [List.map_cons, reps] at h2
      obtain ⟨y, zs', e, h2, h2'⟩ := h2
      obtain ⟨rfl, rfl⟩ := List.cons.inj e
      simp only [abuild] at h4
      split at h4
      · cases h4
      · rename_i off size hpl
        cases hb : (Nat.beq (acells v).length size && (Nat.ble (off + size) z.length && isC v))
        · rw [hb] at h4; cases h4
        · rw [hb] at h4
          simp only [cond_true] at h4
          simp only [Bool.and_eq_true] at hb
          have hs : (acells v).length = size := Nat.eq_of_beq_eq_true hb.1
          have hl : off + size ≤ z.length := Nat.le_of_ble_eq_true hb.2.1
          have hcl := cells_length h2 hb.2.2
          have hzl := reps_length h3
          have hzl' : zs.size = z.length := by simpa using hzl
          have hfold : (u.cells.zipIdx.foldl (fun cs p => cs.setIfInBounds (off + p.2) p.1) zs).toList = zs.toList.take off ++ (u.cells.toList ++ zs.toList.drop (off + u.cells.toList.length)) := by
            rw [← Array.foldl_toList, Array.toList_zipIdx]
            have := fold_set u.cells.toList 0 off zs (by simp; omega)
            simpa using this
          obtain ⟨cs, k1, k2⟩ := fill_abuild r vs (splice z off (acells v)) (u.cells.zipIdx.foldl (fun cs p => cs.setIfInBounds (off + p.2) p.1) zs) out h1 h2' (by
            rw [hfold]; exact reps_splice h3 (reps_cellsC h2 hb.2.2)) h4
          refine ⟨cs, ?_, k2⟩
          have c1 : ¬ (u.cells.size ≠ size || decide (off + u.cells.size > zs.size)) = true := by
            simp; omega
          simp only [Instr.fill, hpl]
          rw [if_neg (by simpa using c1)]
          exact k1

class BldOk (P : Program) (t : Nat) (z : outParam (List Value)) (pl : outParam (List (Nat × Nat))) : Prop where
  bld : ∃ zv fields, (∀ w, (zeroValue t).run P w = .ok zv w) ∧ zv.cells.toList = z ∧ P.underlying t = some (.struct fields) ∧ ∀ w, (fields.mapM fun (f : Field) => (do pure (f.offset, ← sizeOf f.type) : Sem (Nat × Nat))).run P w = .ok pl.toArray w

theorem reps_lits {g : Gh} {w : World} : ∀ l : List Value, reps g w (l.map AV.v) l
  | [] => by simp [reps]
  | x :: l => by simp only [List.map_cons, reps]; exact ⟨x, l, rfl, by simp [rep], reps_lits l⟩

section
variable {E : En} {bl : List (Nat × List AV)} {tm : List (Nat × AV)} {d : Option Tmp} {ty : TypeId} {pos : String} {af : Array Edge} {gd : Option (Nat × Bool)}
theorem reps_parts {g : Gh} {w : World} {ρ : Operand → Value} (ps : List (Nat × Operand)) (h : ∀ x ∈ ps.map (·.2), rep g w (ev tm x) (ρ x)) : reps g w ((ps.map fun p => (p.1, ev tm p.2)).map (·.2)) ((ps.map fun p => (p.1, ρ p.2)).map (·.2)) := by
  have := reps_map (tm := tm) (g := g) (w := w) (ρ := ρ) (ps.map (·.2)) h
  simpa [List.map_map, Function.comp_def] using this
theorem QV_build {t : Nat} {ps : Array (Nat × Operand)} {z : List Value} {pl : List (Nat × Nat)} {out : List AV} [hb : BldOk E.P t z pl] (h : abuild (pl[·]?) (z.map AV.v) (ps.toList.map fun p => (p.1, ev tm p.2)) = some out) :
    QV E bl tm ⟨d, .build t ps, ty, pos, af, gd⟩ (.agg out) [] [] :=
  QV_pure fun g w ρ hop => by
    obtain ⟨zv, fields, h1, rfl, h3, h4⟩ := hb.bld
    obtain ⟨cs, k1, k2⟩ := fill_abuild (g := g) (w := w) _ (ps.toList.map fun p => (p.1, ρ p.2)) _ zv.cells out (by simp [List.map_map, Function.comp_def])
      (reps_parts ps.toList fun x hx => hop x (by simpa [Op.operands] using hx)) (reps_lits _) h
    refine ⟨.agg cs, ?_, by simp only [rep]; exact ⟨cs, rfl, k2⟩⟩
    have e : (ps.map fun x => (x.1, ρ x.2)).toList = ps.toList.map fun p => (p.1, ρ p.2) := by simp
    have k1' : Instr.fill (fun x => pl.toArray[x]?) zv.cells (ps.map fun x => (x.1, ρ x.2)).toList = some cs := by
      rw [e]
      simpa using k1
    simp only [execOp, Instr.build, Sem.run_bind, h1, run_underlying h3, Result.andThen_ok, h4, k1', Sem.run_pure]

def toD : AV → AV
  | .own _ _ e rows => .sl e rows
  | .v x => .v x
  | .sl e rows => .sl e rows
  | _ => .top
theorem drep_toD {g : Gh} {w : World} {x : AV} {y : Value} (h : rep g w x y) : drep g.I w (toD x) y := by
  cases x <;> simp only [toD]
  case own => simp only [rep] at h; exact drep_of_own h
  case v => simpa [rep, drep] using h
  case sl => simpa only [rep] using h
  all_goals simp [drep]
theorem dreps_toD {g : Gh} {w : World} : ∀ {xs : List AV} {ys : List Value}, reps g w xs ys → dreps g.I w (xs.map toD) ys
  | [], ys, h => by simpa [reps, dreps] using h
  | x :: xs, ys, h => by
    simp only [reps] at h
    obtain ⟨y, zs, e, h1, h2⟩ := h
    simp only [List.map_cons, dreps]
    exact ⟨y, zs, e, drep_toD h1, dreps_toD h2⟩
def chunk (e : Nat) : Nat → List AV → List (List AV)
  | 0, _ => []
  | n + 1, l => l.take e :: chunk e n (l.drop e)
theorem chunk_spec {e : Nat} : ∀ {n : Nat} {l : List AV}, l.length = n * e → (chunk e n l).flatten = l ∧ (∀ r ∈ chunk e n l, r.length = e) ∧ (chunk e n l).length = n
  | 0, l, h => by simp at h; simp [chunk, h]
  | n + 1, l, h => by
    rw [Nat.add_mul] at h
    obtain ⟨h1, h2, h3⟩ := chunk_spec (e := e) (n := n) (l := l.drop e) (by simp; omega)
    refine ⟨by simp [chunk, h1], fun r hr => ?_, by simp [chunk, h3]⟩
    simp only [chunk, List.mem_cons] at hr
    rcases hr with rfl | hr
    · simp; omega
    · exact h2 r hr
class ZSlOk (P : Program) (t : Nat) (T e by_ : outParam Nat) (z : outParam (List Value)) : Prop where
  sl : SlOk P t T e by_
  zero : ∃ zv, (∀ w, (zeroValue T).run P w = .ok zv w) ∧ zv.cells.toList = z
theorem range_zero (z : Array Value) (n : Nat) : ((Array.range (n * z.size)).map (z[· % z.size]!)).toList = (List.replicate n z.toList).flatten := by
  induction n with
  | zero => simp
  | succ n ih =>
    rw [List.replicate_succ', List.flatten_append, ← ih, Nat.add_mul, Nat.one_mul]
    simp only [Array.toList_map, Array.toList_range, List.range_add, List.map_append, List.map_map, List.flatten_cons, List.flatten_nil, List.append_nil]
    congr 1
    apply List.ext_getElem
    · simp
    · intro i h1 h2
      simp only [List.length_map, List.length_range] at h1
      simp [Nat.mod_eq_of_lt h1, Nat.mul_comm n, Nat.add_comm, h1]
theorem QV_buildSlice {t len : Nat} {ps : Array (Nat × Operand)} {T e by_ : Nat} {z : List Value} {fl : List AV} (n : Nat) [hs : ZSlOk E.P t T e by_ z]
    (h : abuild (fun i => some (i * e, e)) (List.replicate len (z.map AV.v)).flatten (ps.toList.map fun p => (p.1, ev tm p.2)) = some fl) (hl : len * e ≤ 1048576) :
    QV E bl tm ⟨d, .buildSlice t len ps, ty, pos, af, gd⟩ (.own n T e (chunk e len (fl.map toD))) [] [n] := by
  intro g w ρ bl' ow' hm _ _ hno hop
  obtain ⟨in0, iz, i1, i2, i3, i4, i5⟩ := hs.sl.info
  obtain ⟨zv, h1, rfl⟩ := hs.zero
  have hpos := hs.sl.pos
  have hzv : zv = iz := by
    have := h1 w
    simpa [zeroValue, typeInfo, i1, i2] using this.symm
  subst hzv
  have hzs : zv.cells.size = e := i5
  have hsz : ∀ w, (sizeOf T).run E.P w = .ok e w := fun w => by simp [sizeOf, typeInfo, i1, i3]
  have hz0 : reps g w (List.replicate len (zv.cells.toList.map AV.v)).flatten ((Array.range (len * e)).map (zv.cells[· % zv.cells.size]!)).toList := by
    have := range_zero zv.cells len
    rw [hzs] at this ⊢
    rw [this]
    have : (List.replicate len (zv.cells.toList.map AV.v)).flatten = ((List.replicate len zv.cells.toList).flatten).map AV.v := by simp [List.map_flatten]
    rw [this]
    exact reps_lits _
  obtain ⟨cs, k1, k2⟩ := fill_abuild (g := g) (w := w) _ (ps.toList.map fun p => (p.1, ρ p.2)) _ ((Array.range (len * e)).map (zv.cells[· % zv.cells.size]!)) fl (by simp [List.map_map, Function.comp_def])
      (reps_parts ps.toList fun x hx => hop x (by simpa [Op.operands] using hx)) hz0 h
  have hfill : ∀ (pl : Nat → Option (Nat × Nat)) (parts : List (Nat × Value)) (zs cs : Array Value), (∀ i o s, pl i = some (o, s) → True) → Instr.fill pl zs parts = some cs → cs.size = zs.size := by
    intro pl parts
    induction parts with
    | nil => intro zs cs _ h; simp only [Instr.fill, Option.some.injEq] at h; rw [h]
    | cons p parts ih =>
      intro zs cs _ h
      obtain ⟨i, v⟩ := p
      simp only [Instr.fill] at h
      split at h
      · cases h
      · split at h
        · cases h
        · have := ih _ cs (fun _ _ _ _ => trivial) h
          rw [this]
          have : ∀ (l : List (Value × Nat)) (zs : Array Value) (off : Nat), (l.foldl (fun cs p => cs.setIfInBounds (off + p.2) p.1) zs).size = zs.size := by
            intro l
            induction l with
            | nil => intro zs off; rfl
            | cons p l ih => intro zs off; simp only [List.foldl_cons]; rw [ih]; simp
          rw [← Array.foldl_toList]
          exact this _ _ _
  have hcsz : cs.size = len * e := by
    have := hfill _ _ _ _ (fun _ _ _ _ => trivial) k1
    simpa using this
  have hfl : (fl.map toD).length = len * e := by
    have := reps_length k2
    simp at this ⊢; omega
  obtain ⟨c1, c2, c3⟩ := chunk_spec hfl
  obtain ⟨g', m1, m2, m3⟩ := hm.newOwn n (hno n (by simp)) T e (chunk e len (fl.map toD)) c2 cs (by rw [c3]; unfold maxLen; have : len ≤ len * e := Nat.le_mul_of_pos_right _ hpos; omega) (by rw [c1]; exact dreps_toD k2)
  have e2 : (ps.map fun x => (x.1, ρ x.2)).toList = ps.toList.map fun p => (p.1, ρ p.2) := by simp
  have k1' : Instr.fill (fun i => some (i * e, e)) ((Array.range (len * e)).map (zv.cells[· % zv.cells.size]!)) (ps.map fun x => (x.1, ρ x.2)).toList = some cs := by rw [e2]; exact k1
  have hrun : (execOp ρ ⟨d, .buildSlice t len ps, ty, pos, af, gd⟩).run E.P w = .ok (.value (.slice (some ⟨w.heap.size, 0, none⟩) len len)) (w.alloc (.cells cs T)) := by
    have hle : ¬ (len * e > 2 ^ 24) := by omega
    by_cases h0 : len * e = 0
    · have hz0' : (Array.range (len * e)).map (zv.cells[· % zv.cells.size]!) = (Array.range (len * e)).map ((#[] : Array Value)[· % (#[] : Array Value).size]!) := by simp [h0]
      rw [hz0'] at k1'
      simp only [execOp, Instr.buildSlice, Sem.run_bind, run_underlying hs.sl.und, Result.andThen_ok, hsz, if_neg hle, Sem.run_pure, if_pos h0, k1', newRow, run_newObj_alloc]
    · simp only [execOp, Instr.buildSlice, Sem.run_bind, run_underlying hs.sl.und, Result.andThen_ok, hsz, if_neg hle, Sem.run_pure, if_neg h0, h1, k1', newRow, run_newObj_alloc]
  rw [hrun]
  refine ⟨g', m1, m2, ?_⟩
  simp only [rep]
  rw [c3] at m3
  exact m3

def abound (x : Option AV) (dflt : Int) : Option Int := match x with
  | none => some dflt
  | some (.v (.int _ i)) => some i
  | some _ => none
theorem QV_slice {t : Nat} {x : Operand} {lo hi : Option Operand} {xv : AV} {T e by_ : Nat} {rows : List (List AV)} {l h : Int} {i j : Nat} [hs : SlOk E.P t T e by_] (hx : ev tm x = xv) (hr : arows xv = some (e, rows))
    (hlo : abound (lo.map (ev tm)) 0 = some l) (hhi : abound (hi.map (ev tm)) rows.length = some h) (hi' : l = i) (hj : h = j) (hij : i ≤ j) (hjl : j ≤ rows.length) :
    QV E bl tm ⟨d, .slice t x lo hi none, ty, pos, af, gd⟩ (.sl e ((rows.take j).drop i)) [] [] :=
  QV_pure fun g w ρ hop => by
    have h1 := hop x (by simp [Op.operands])
    rw [hx] at h1
    have h1' := drep_arows h1 hr
    simp only [drep] at h1'
    obtain ⟨A, c, h3, h4, hc⟩ := h1'
    obtain ⟨in0, z, i1, i2, i3, i4, i5⟩ := hs.info
    have hsz : (sizeOf T).run E.P w = .ok e w := by simp [sizeOf, typeInfo, i1, i3]
    have hH : ∀ (m : Nat) (c1 : BoundsCode), rows.length ≤ m → (match hi.map ρ with | some v => Instr.sliceBound v m c1 | none => pure rows.length : Sem Nat).run E.P w = .ok j w := by
      intro m c1 hm
      cases hi with
      | none => simp only [Option.map_none, abound, Option.some.injEq] at hhi; simp only [Option.map_none, Sem.run_pure]; congr 1; omega
      | some xh =>
        have h2 := hop xh (by simp [Op.operands])
        simp only [Option.map_some] at hhi ⊢
        cases hv : ev tm xh <;> rw [hv] at hhi <;> simp only [abound, reduceCtorEq] at hhi
        rename_i vv
        cases vv <;> simp only [Option.some.injEq, reduceCtorEq] at hhi
        rw [hv] at h2
        simp only [rep] at h2
        subst hhi; subst hj
        rw [h2]
        simp [Instr.sliceBound, asIntOf, show (j : Int) ≤ (m : Int) by omega]
    have hL : ∀ (c1 : BoundsCode), (match lo.map ρ with | some v => Instr.sliceBound v j c1 | none => pure 0 : Sem Nat).run E.P w = .ok i w := by
      intro c1
      cases lo with
      | none => simp only [Option.map_none, abound, Option.some.injEq] at hlo; simp only [Option.map_none, Sem.run_pure]; congr 1; omega
      | some xl =>
        have h2 := hop xl (by simp [Op.operands])
        simp only [Option.map_some] at hlo ⊢
        cases hv : ev tm xl <;> rw [hv] at hlo <;> simp only [abound, reduceCtorEq] at hlo
        rename_i vv
        cases vv <;> simp only [Option.some.injEq, reduceCtorEq] at hlo
        rw [hv] at h2
        simp only [rep] at h2
        subst hlo; subst hi'
        rw [h2]
        simp [Instr.sliceBound, asIntOf, show (i : Int) ≤ (j : Int) by omega]
    have hB : (Instr.sliceBounds true rows.length c (lo.map ρ) (hi.map ρ) (Option.map ρ none)).run E.P w = .ok (i, j, c) w := by
      have h5 := hH c .sliceAcap hc
      have h6 := hL .sliceB
      simp only [Option.map_none, Instr.sliceBounds, Option.isSome_none, Sem.run_bind, Sem.run_pure, Result.andThen_ok, if_true]
      have h7 : (match lo.map ρ with | some v => (do let l ← Instr.sliceBound v j (if false = true then BoundsCode.slice3C else BoundsCode.sliceB); pure (l, j, c)) | none => (do let l ← pure 0; pure (l, j, c)) : Sem (Nat × Nat × Nat)).run E.P w = .ok (i, j, c) w := by
        cases lo with
        | none => simp only [Option.map_none] at h6 ⊢; rw [Sem.run_bind, h6]; rfl
        | some xl => simp only [Option.map_some] at h6 ⊢; rw [Sem.run_bind]; simp only [Bool.false_eq_true, if_false]; rw [h6]; rfl
      cases hi with
      | none => simp only [Option.map_none] at h5 ⊢; rw [Sem.run_bind, h5]; exact h7
      | some xh => simp only [Option.map_some] at h5 ⊢; rw [Sem.run_bind, h5]; exact h7
    refine ⟨.slice (if c = i then A else A.map (·.add (i * e))) (j - i) (c - i), ?_, ?_⟩
    · simp only [execOp, h3, Instr.sliceAt, Instr.slice, run_underlying hs.und, Sem.run_bind, Result.andThen_ok, hB, hsz, Sem.run_pure]
    · have hlen : ((rows.take j).drop i).length = j - i := by simp; omega
      simp only [rep, drep]
      refine ⟨if c = i then A else A.map (·.add (i * e)), c - i, by rw [hlen], ?_, by rw [hlen]; omega⟩
      rcases h4 with h4 | ⟨b, o, rfl, h4⟩
      · left; simp [h4]
      · rcases Nat.lt_or_ge i j with h7 | h7
        · right
          refine ⟨b, o + i * e, ?_, drows_drop (drows_take h4)⟩
          have hne : ¬ c = i := by omega
          simp [addr_add, hne]
        · left
          apply List.drop_eq_nil_of_le
          simp; omega

theorem QV_lenS {t : Nat} {x : Operand} {s : ByteArray} (ht : E.P.underlying t = some .string) (hx : ev tm x = .v (.string s)) :
    QV E bl tm ⟨d, .call ⟨.builtin .len, #[x], #[t]⟩, ty, pos, af, gd⟩ (.v (.int .i64 s.size)) [] [] :=
  QV_pure fun g w ρ hop => by
    have h1 := hop x (by simp [Op.operands, Call.operands])
    rw [hx] at h1
    simp only [rep] at h1
    exact ⟨_, by simp [execOp, resolve, invoke, builtin, Builtin.len_, h1, run_underlying ht, goInt]; rfl, by simp only [rep]⟩

end

def setB (bl : List (Nat × List AV)) (n : Nat) (cs : List AV) : List (Nat × List AV) := bl.map fun p => bif Nat.beq p.1 n then (p.1, cs) else p
def isCell : AV → Bool
  | .v x => x.oneCell'
  | .top => false
  | .agg _ => false
  | .tup _ => false
  | _ => true
theorem oneCell_of {g : Gh} {w : World} {x : AV} {y : Value} (h : rep g w x y) (hc : isCell x = true) : y.oneCell' = true := by
  cases x <;> simp only [isCell, Bool.false_eq_true] at hc
  case v x => simp only [rep] at h; subst h; exact hc
  case sl => simp only [rep, drep] at h; obtain ⟨A, c, rfl, _⟩ := h; rfl
  case own =>
    simp only [rep] at h
    obtain ⟨_, _, xs, h3, _⟩ := h
    rcases h3.2 with ⟨rfl, _⟩ | ⟨_, _, _, rfl, _⟩ <;> rfl
  case ptr => simp only [rep] at h; obtain ⟨b, _, rfl⟩ := h; rfl
  case eptr => simp only [rep] at h; obtain ⟨b, o, rfl, _⟩ := h; rfl
  case fn => simp only [rep] at h; obtain ⟨a, b, rfl, _⟩ := h; rfl
  case arr => simp only [rep] at h; obtain ⟨b, _, _, _, rfl, _⟩ := h; rfl
theorem setRow_heap' {w : World} {b : Nat} {cur cs : Array Value} {T : TypeId} (h : w.heap[b]? = some (.cells cur T (0, 0))) : (w.setRow b cs).heap[b]? = some (.cells cs T (0, 0)) := setRow_heap w b cur cs T (0, 0) h

theorem Mem.setBlock {E : En} {g : Gh} {bl : List (Nat × List AV)} {ow : List Nat} {w : World} (h : Mem E g bl ow w) {n b : Nat} (hn : g.m n = some b) (hro : n ∉ E.ron) {cs : List AV} {arr : Array Value} {cur : Array Value} (hh : w.heap[b]? = some (.cells cur (g.mt n) (0, 0)))
    (hI : ∀ o, ¬ g.I b o) (hr : reps g w cs arr.toList) (hsz : arr.size = cur.size) : Goes g w g (w.setRow b arr) ∧ Mem E g (setB bl n cs) ow (w.setRow b arr) := by
  have other : ∀ k, k ≠ b → (w.setRow b arr).heap[k]? = w.heap[k]? := fun k hk => setRow_other w b k arr hk
  have size : (w.setRow b arr).heap.size = w.heap.size := by simp [World.setRow]
  have keeps : Keeps g.I w (w.setRow b arr) := fun k o hk => World.cell?_of_block (a := ⟨k, o, none⟩) (other k fun e => hI o (e ▸ hk))
  have goes : Goes g w g (w.setRow b arr) := ⟨fun _ _ h => h, keeps, fun _ _ h => h, fun _ _ _ => rfl, fun k T' e rows y hy =>
    ownRep_goes (g := g) (g' := g) (fun _ _ h => h) keeps (fun _ h => ⟨h, rfl⟩) (fun k c h1 h2 => other c fun e => h.disj n k b hn h1 (e ▸ h2)) (fun _ _ _ _ _ h => h) hy, fun k c j _ hk hc => by
      by_cases e : c = b
      · subst e
        obtain ⟨A, T, h1, h2⟩ := hc
        rw [hh] at h1
        cases h1
        exact ⟨arr, _, setRow_heap' hh, hsz.trans h2⟩
      · exact hc.same (other c e)⟩
  refine ⟨goes, ?_⟩
  have hbB : E.B ≤ b ∨ E.M b := (h.mfr n b hn).1.resolve_left hro
  refine { below := ⟨h.below.os, h.below.tape, h.below.output, by rw [size]; exact h.below.size, fun k hk hM => ?_⟩, base := by rw [size]; exact h.base, cell := fun c o hc => by rw [keeps c o hc]; exact h.cell c o hc,
           mfr := fun k c hk => by rw [size]; exact h.mfr k c hk, ofr := fun k c h1 h2 => by rw [size]; exact h.ofr k c h1 h2, minj := h.minj, oinj := h.oinj, disj := h.disj, blk := ?_, key := fun k c hk => ?_, own := h.own, inew := h.inew, iold := h.iold, pin := h.pin }
  · rw [other k fun e => by subst e; rcases hbB with h1 | h1 <;> first | omega | exact hM h1]
    exact h.below.block k hk hM
  · intro k ds hk
    simp only [setB, List.mem_map] at hk
    obtain ⟨⟨k', ds'⟩, hp, he⟩ := hk
    obtain ⟨c, arr', h1, h2, h3, h4⟩ := h.blk k' ds' hp
    cases hb : Nat.beq k' n
    · simp only [hb, cond_false, Prod.mk.injEq] at he
      obtain ⟨rfl, rfl⟩ := he
      have hne : c ≠ b := fun e => by
        subst e
        have := h.minj k' n c h1 hn
        rw [this] at hb; simp at hb
      exact ⟨c, arr', h1, (other c hne).trans h2, reps_goes goes h3, h4⟩
    · simp only [hb, cond_true, Prod.mk.injEq] at he
      obtain ⟨rfl, rfl⟩ := he
      have e := Nat.eq_of_beq_eq_true hb
      rw [e] at h1 ⊢
      have : c = b := by rw [hn] at h1; exact (Option.some.inj h1).symm
      subst this
      exact ⟨c, arr, hn, setRow_heap' hh, reps_goes goes hr, h4⟩
  · obtain ⟨ds, hd⟩ := h.key k c hk
    cases hb : Nat.beq k n
    · exact ⟨ds, List.mem_map.2 ⟨_, hd, by simp only [hb, cond_false]⟩⟩
    · exact ⟨cs, List.mem_map.2 ⟨_, hd, by simp only [hb, cond_true]⟩⟩

theorem TV_store {E : En} {s : St} {d : Option Tmp} {ty : TypeId} {pos : String} {af : Array Edge} {gd : Option (Nat × Bool)} {t : Nat} {x y : Operand} {n o sz : Nat} {ag : Bool} {v : AV} {cs : List AV} [ht : TyOk E.P t ag sz] (hd : dstB E.nt ⟨d, .store t x y, ty, pos, af, gd⟩ = true) (hx : ev s.tm x = .ptr n o) (hy : ev s.tm y = v) (hb : lookB s.bl n = some cs) (hro : n ∉ E.ron)
    (hc : isC v = true) (hall : (acells v).all isCell = true) (hl : (acells v).length = sz) (hfit : o + sz ≤ cs.length) : TV E ⟨d, .store t x y, ty, pos, af, gd⟩ s (St.app ⟨s.tm, setB s.bl n (splice cs o (acells v)), s.ow⟩ d (.v undef) [] []) := by
  intro g a w hi next Q hn
  have h1 := rep_ev hi.tm x
  have h2 := rep_ev hi.tm y
  rw [hx] at h1; rw [hy] at h2
  simp only [rep] at h1
  obtain ⟨b, h1, h1'⟩ := h1
  obtain ⟨b', arr, e1, e2, e3, e4⟩ := hi.mem.blk n cs (lookB_mem hb)
  have : b' = b := by rw [h1] at e1; exact (Option.some.inj e1).symm
  subst this
  have hcs := reps_cellsC h2 hc
  have hvl : (a.eval y).cells.size = sz := by rw [cells_length h2 hc, hl]
  have hal := reps_length e3
  have hall' : ∀ u ∈ (a.eval y).cells.toList, u.oneCell' = true := by
    have : ∀ (xs : List AV) (ys : List Value), reps g w xs ys → xs.all isCell = true → ∀ u ∈ ys, u.oneCell' = true := by
      intro xs
      induction xs with
      | nil => intro ys h _ u hu; simp only [reps] at h; subst h; simp at hu
      | cons x xs ih =>
        intro ys h ha u hu
        simp only [reps] at h
        obtain ⟨z, zs, rfl, k1, k2⟩ := h
        simp only [List.all_cons, Bool.and_eq_true] at ha
        rcases List.mem_cons.1 hu with rfl | hu
        · exact oneCell_of k1 ha.1
        · exact ih zs k2 ha.2 u hu
    exact this _ _ hcs hall
  have hst := run_storeCells_at E.P b' o (g.mt n) (a.eval y).cells.toList 0 arr w e2 (by simp at hal ⊢; omega) hall'
  simp only [Nat.add_zero] at hst
  have hrun : (execOp a.eval ⟨d, .store t x y, ty, pos, af, gd⟩).run E.P w = .ok .skip (w.setRow b' (arr.toList.take o ++ (a.eval y).cells.toList ++ arr.toList.drop (o + (a.eval y).cells.toList.length)).toArray) := by
    have hne : ¬ ((a.eval y).cells.size ≠ sz) := by omega
    simp only [execOp, h1', Instr.storeAt, Instr.sureAddr, storeVar, Sem.run_bind, Sem.run_pure, Result.andThen_ok, ht.sz, if_neg hne, hst]
  have hrs := reps_splice (off := o) e3 hcs
  obtain ⟨k1, k2⟩ := hi.mem.setBlock (cs := splice cs o (acells v)) (arr := (arr.toList.take o ++ (a.eval y).cells.toList ++ arr.toList.drop (o + (a.eval y).cells.toList.length)).toArray) h1 hro e2 e4 (by simpa [List.append_assoc] using hrs) (by simp at hal ⊢; omega)
  refine wpIn_of_wp (fun _ h => by cases h) ?_
  unfold Oper.wp
  rw [hrun]
  simp only [Oper.upon]
  refine hn g _ _ ?_
  have hi' : Inv E g ⟨s.tm, setB s.bl n (splice cs o (acells v)), s.ow⟩ a (w.setRow b' (arr.toList.take o ++ (a.eval y).cells.toList ++ arr.toList.drop (o + (a.eval y).cells.toList.length)).toArray) :=
    ⟨k2, fun t => rep_goes k1 (hi.tm t), hi.de, hi.sz⟩
  exact hi'.app (dstB_spec hd) (Goes.refl _ _) (by simpa using k2) (by simp [rep])

theorem not_top_of_cells {l : List AV} (h : l.all isCell = true) : l.all (fun x => !isTop x) = true := by
  induction l with
  | nil => rfl
  | cons x l ih =>
    simp only [List.all_cons, Bool.and_eq_true] at h ⊢
    exact ⟨by cases x <;> simp_all [isCell, isTop], ih h.2⟩
theorem reps_tops {g : Gh} {w : World} : ∀ (l : List AV) (ys : List Value), l.all isTop = true → l.length = ys.length → reps g w l ys
  | [], ys, _, h => by cases ys <;> simp_all [reps]
  | x :: l, [], _, h => by simp at h
  | x :: l, y :: ys, ha, h => by
    simp only [List.all_cons, Bool.and_eq_true] at ha
    simp only [reps]
    refine ⟨y, ys, rfl, ?_, reps_tops l ys ha.2 (by simpa using h)⟩
    cases x <;> simp_all [isTop, rep]
theorem QI_store {E : En} {tm : List (Nat × AV)} {ty : TypeId} {pos : String} {af : Array Edge} {t : Nat} {y : Operand} {n sz : Nat} {ag : Bool} {v : AV} [ht : TyOk E.P t ag sz] (hx : ev tm (.tmp n) = .ptr n 0) (hy : ev tm y = v) (hro : n ∉ E.ron)
    (hc : isC v = true) (hall : (acells v).all isCell = true) (hl : (acells v).length = sz) (hne : acells v ≠ []) : QI E tm ⟨none, .store t (.tmp n) y, ty, pos, af, none⟩ n (acells v) := by
  refine ⟨rfl, rfl, by simp [Op.operands], ⟨not_top_of_cells hall, hne⟩, fun g w ρ bl' ow' hm hex hall' hop => ?_⟩
  have h1 := hop (.tmp n) (by simp [Op.operands])
  have h2 := hop y (by simp [Op.operands])
  rw [hx] at h1; rw [hy] at h2
  simp only [rep] at h1
  obtain ⟨b, h1, h1'⟩ := h1
  obtain ⟨c0, hc0⟩ := hex
  obtain ⟨b', arr, e1, e2, e3, e4⟩ := hm.blk n c0 hc0
  have : b' = b := by rw [h1] at e1; exact (Option.some.inj e1).symm
  subst this
  have hcs := reps_cellsC h2 hc
  have hvl : (ρ y).cells.size = sz := by rw [cells_length h2 hc, hl]
  have hal := reps_length e3
  have hc0l := (hall' c0 hc0).1
  have hall2 : ∀ u ∈ (ρ y).cells.toList, u.oneCell' = true := by
    have : ∀ (xs : List AV) (ys : List Value), reps g w xs ys → xs.all isCell = true → ∀ u ∈ ys, u.oneCell' = true := by
      intro xs
      induction xs with
      | nil => intro ys h _ u hu; simp only [reps] at h; subst h; simp at hu
      | cons x xs ih =>
        intro ys h ha u hu
        simp only [reps] at h
        obtain ⟨z, zs, rfl, k1, k2⟩ := h
        simp only [List.all_cons, Bool.and_eq_true] at ha
        rcases List.mem_cons.1 hu with rfl | hu
        · exact oneCell_of k1 ha.1
        · exact ih zs k2 ha.2 u hu
    exact this _ _ hcs hall
  have hst := run_storeCells_at E.P b' 0 (g.mt n) (ρ y).cells.toList 0 arr w e2 (by simp at hal ⊢; omega) hall2
  simp only [Nat.add_zero] at hst
  have hrow : (arr.toList.take 0 ++ (ρ y).cells.toList ++ arr.toList.drop (0 + (ρ y).cells.toList.length)).toArray = (ρ y).cells := by
    have : arr.toList.drop (0 + (ρ y).cells.toList.length) = [] := List.drop_eq_nil_of_le (by simp at hal ⊢; omega)
    rw [this]; simp
  have hrun : (execOp ρ ⟨none, .store t (.tmp n) y, ty, pos, af, none⟩).run E.P w = .ok .skip (w.setRow b' (ρ y).cells) := by
    have hne : ¬ ((ρ y).cells.size ≠ sz) := by omega
    rw [hrow] at hst
    simp only [execOp, h1', Instr.storeAt, Instr.sureAddr, storeVar, Sem.run_bind, Sem.run_pure, Result.andThen_ok, ht.sz, if_neg hne, hst]
  obtain ⟨k1, k2⟩ := hm.setBlock (cs := acells v) (arr := (ρ y).cells) h1 hro e2 e4 hcs (by simp at hal; omega)
  rw [hrun]
  refine ⟨rfl, g, k1, { k2 with blk := fun k ds hk => ?_, key := fun k c hk => ?_ }⟩
  · have hself : ∃ b arr', g.m n = some b ∧ (w.setRow b' (ρ y).cells).heap[b]? = some (.cells arr' (g.mt n) (0, 0)) ∧ reps g (w.setRow b' (ρ y).cells) (acells v) arr'.toList ∧ ∀ o, ¬ g.I b o :=
      k2.blk n (acells v) (List.mem_map.2 ⟨_, hc0, by simp⟩)
    rcases List.mem_cons.1 hk with he | hk2
    · simp only [Prod.mk.injEq] at he
      obtain ⟨rfl, rfl⟩ := he
      exact hself
    · clear hk
      cases hb : Nat.beq k n
      · exact k2.blk k ds (List.mem_map.2 ⟨_, hk2, by simp only [hb, cond_false]⟩)
      · have := Nat.eq_of_beq_eq_true hb
        subst this
        obtain ⟨b2, arr2, m1, m2, m3, m4⟩ := hself
        exact ⟨b2, arr2, m1, m2, reps_tops _ _ (hall' ds hk2).2 (by rw [(hall' ds hk2).1]; exact (reps_length m3).symm), m4⟩
  · obtain ⟨ds, hd⟩ := hm.key k c hk
    exact ⟨ds, List.mem_cons_of_mem _ hd⟩
theorem Mem.tops {E : En} {g : Gh} {n : Nat} {cs ts : List AV} {bl : List (Nat × List AV)} {ow : List Nat} {w : World} (h : Mem E g ((n, cs) :: bl) ow w) (ht : ts.all isTop = true) (hl : ts.length = cs.length) : Mem E g ((n, ts) :: bl) ow w :=
  { h with
    blk := fun k ds hk => by
      rcases List.mem_cons.1 hk with he | hk
      · simp only [Prod.mk.injEq] at he
        obtain ⟨rfl, rfl⟩ := he
        obtain ⟨b, arr, m1, m2, m3, m4⟩ := h.blk k cs (List.mem_cons_self ..)
        exact ⟨b, arr, m1, m2, reps_tops _ _ ht (by rw [hl]; exact (reps_length m3).symm), m4⟩
      · exact h.blk k ds (List.mem_cons_of_mem _ hk)
    key := fun k c hk => by
      obtain ⟨ds, hd⟩ := h.key k c hk
      rcases List.mem_cons.1 hd with he | hd
      · simp only [Prod.mk.injEq] at he
        exact ⟨ts, by rw [he.1]; exact List.mem_cons_self ..⟩
      · exact ⟨ds, List.mem_cons_of_mem _ hd⟩ }
theorem UponQ.mono {P : Program} {K K' : Value → World → Prop} (hK : ∀ y w, K y w → K' y w) : ∀ {r : Result Next}, UponQ P K r → UponQ P K' r
  | .ok (.value _) _, h => hK _ _ h
  | .ok .skip _, h => hK _ _ h
  | .ok (.enter _ _) _, h => Calls.mono h fun _ _ ⟨y, he, hy⟩ => ⟨y, he, hK _ _ hy⟩
  | .halt _ _, h => h.elim
theorem QV_tops {E : En} {bl : List (Nat × List AV)} {tm : List (Nat × AV)} {o : Oper} {n : Nat} {v : AV} {cs ts : List AV} (h : QV E bl tm o v [(n, cs)] []) (ht : ts.all isTop = true) (hl : ts.length = cs.length) : QV E bl tm o v [(n, ts)] [] :=
  fun g w ρ bl' ow' hm hb hf hn hop => UponQ.mono (fun _ _ hK => let ⟨g', h1, h2, h3⟩ := hK; ⟨g', h1, Mem.tops h2 ht hl, h3⟩)
    (h g w ρ bl' ow' hm hb (fun p hp q hq => by
      rw [List.mem_singleton] at hp; subst hp
      exact hf (n, ts) (List.mem_singleton.2 rfl) q hq) hn hop)
end Go.Eng

namespace Go.Eng
open Go

def lookO : List (Nat × AV) → Nat → Option AV
  | [], _ => some .top
  | (k, v) :: r, t => bif Nat.beq k t then some v else lookO r t
theorem lookO_eq : ∀ (tm : List (Nat × AV)) (t : Nat), lookO tm t = some (look tm t)
  | [], _ => rfl
  | (k, v) :: r, t => by
    simp only [lookO, look]
    cases Nat.beq k t
    · exact lookO_eq r t
    · rfl
def cstO : Value → Option AV
  | .agg a => some (.agg (a.toList.map AV.v))
  | .bool b => some (.v (.bool b))
  | .int k n => some (.v (.int k n))
  | .slice a n c => some (.v (.slice a n c))
  | x => some (.v x)
def evO (tm : List (Nat × AV)) : Operand → Option AV
  | .tmp t => lookO tm t
  | .const x => cstO x
  | .global _ => some .top
  | .func f => some (.v (.func (.func f) #[] #[]))
theorem evO_ev {tm : List (Nat × AV)} {x : Operand} {v : AV} (h : evO tm x = some v) : ev tm x = v := by
  cases x with
  | tmp t => simpa [evO, lookO_eq, ev] using h
  | const x => cases x <;> simpa [evO, cstO, ev, cst] using h
  | global n => simpa [evO, ev] using h
  | func f => simpa [evO, ev] using h
def acellsO : AV → Option (List AV)
  | .agg cs => some cs
  | x => some [x]
theorem acellsO_eq {x : AV} {cs : List AV} (h : acellsO x = some cs) : acells x = cs := by
  cases x <;> simpa [acellsO, acells] using h
def takeO : Nat → List AV → Option (List AV)
  | 0, _ => some []
  | _ + 1, [] => none
  | n + 1, x :: xs => match takeO n xs with | some r => some (x :: r) | none => none
theorem takeO_eq : ∀ {n : Nat} {l r : List AV}, takeO n l = some r → n ≤ l.length ∧ l.take n = r
  | 0, l, r, h => by simp [takeO] at h; simp [h]
  | n + 1, [], r, h => by simp [takeO] at h
  | n + 1, x :: xs, r, h => by
    simp only [takeO] at h
    split at h
    · rename_i r' hr
      obtain ⟨h1, h2⟩ := takeO_eq hr
      simp only [Option.some.injEq] at h
      exact ⟨by simp; exact h1, by simp [h2, h]⟩
    · cases h
def dropO : Nat → List AV → Option (List AV)
  | 0, l => some l
  | _ + 1, [] => none
  | n + 1, _ :: xs => dropO n xs
theorem dropO_eq : ∀ {n : Nat} {l r : List AV}, dropO n l = some r → l.drop n = r
  | 0, l, r, h => by simpa [dropO] using h
  | n + 1, [], r, h => by simp [dropO] at h
  | n + 1, x :: xs, r, h => by simpa using dropO_eq (by simpa [dropO] using h)
def loadO (ag : Bool) (sz : Nat) (cs : List AV) : Option AV := bif ag then (match takeO sz cs with | some r => some (.agg r) | none => none) else (match cs with | x :: _ => some x | [] => none)
theorem loadO_eq {ag : Bool} {sz : Nat} {cs : List AV} {v : AV} (h : loadO ag sz cs = some v) : aload ag sz cs = some v := by
  cases ag
  · cases cs with
    | nil => simp [loadO] at h
    | cons x cs => simpa [loadO, aload] using h
  · simp only [loadO, cond_true] at h
    split at h
    · rename_i r hr
      obtain ⟨h1, h2⟩ := takeO_eq hr
      have : Nat.ble sz cs.length = true := Nat.ble_eq_true_of_le h1
      simp only [aload, cond_true, this, h2]
      exact h
    · cases h
def putO : List AV → Nat → List AV → Option (List AV)
  | l, 0, [] => some l
  | [], 0, _ :: _ => none
  | _ :: l, 0, c :: cs => match putO l 0 cs with | some r => some (c :: r) | none => none
  | [], _ + 1, _ => none
  | x :: l, n + 1, cs => match putO l n cs with | some r => some (x :: r) | none => none
theorem putO_eq : ∀ {l cs r : List AV} {n : Nat}, putO l n cs = some r → n + cs.length ≤ l.length ∧ splice l n cs = r
  | l, [], r, 0, h => by simp [putO] at h; simp [splice, h]
  | [], c :: cs, r, 0, h => by simp [putO] at h
  | x :: l, c :: cs, r, 0, h => by
    simp only [putO] at h
    split at h
    · rename_i r' hr
      obtain ⟨h1, h2⟩ := putO_eq hr
      simp only [Option.some.injEq] at h
      refine ⟨by simp at h1 ⊢; exact h1, ?_⟩
      simp [splice] at h2 ⊢
      rw [← h, ← h2]
    · cases h
  | [], cs, r, n + 1, h => by cases cs <;> simp [putO] at h
  | x :: l, cs, r, n + 1, h => by
    have h' : (match putO l n cs with | some r => some (x :: r) | none => none) = some r := by cases cs <;> simpa [putO] using h
    split at h'
    · rename_i r' hr
      obtain ⟨h1, h2⟩ := putO_eq hr
      simp only [Option.some.injEq] at h'
      refine ⟨by simp; omega, ?_⟩
      simp only [splice] at h2 ⊢
      rw [show n + 1 + cs.length = (n + cs.length) + 1 by omega]
      simp [h2, h']
    · cases h'
def plO : List (Nat × Nat) → Nat → Option (Nat × Nat)
  | [], _ => none
  | p :: _, 0 => some p
  | _ :: r, n + 1 => plO r n
theorem plO_eq : ∀ (l : List (Nat × Nat)) (n : Nat), plO l n = l[n]?
  | [], n => by simp [plO]
  | p :: l, 0 => by simp [plO]
  | p :: l, n + 1 => by simp [plO, plO_eq l n]
def buildO (pl : Nat → Option (Nat × Nat)) (tm : List (Nat × AV)) : List AV → List (Nat × Operand) → Option (List AV)
  | z, [] => some z
  | z, (i, x) :: r => match pl i with
    | none => none
    | some (off, size) => match evO tm x with
      | none => none
      | some v => bif isC v then (match acellsO v with
        | none => none
        | some cs => bif Nat.beq cs.length size then (match putO z off cs with | some z' => buildO pl tm z' r | none => none) else none) else none
theorem buildO_eq {pl : Nat → Option (Nat × Nat)} {tm : List (Nat × AV)} : ∀ {ps : List (Nat × Operand)} {z out : List AV}, buildO pl tm z ps = some out → abuild pl z (ps.map fun p => (p.1, ev tm p.2)) = some out
  | [], z, out, h => by simpa [buildO, abuild] using h
  | (i, x) :: r, z, out, h => by
    simp only [buildO] at h
    simp only [List.map_cons, abuild]
    split at h
    · cases h
    · rename_i off size hp
      split at h
      · cases h
      · rename_i v hv
        cases hc : isC v
        · rw [hc] at h; cases h
        · rw [hc] at h
          simp only [cond_true] at h
          split at h
          · cases h
          · rename_i cs hcs
            cases hl : Nat.beq cs.length size
            · rw [hl] at h; cases h
            · rw [hl] at h
              simp only [cond_true] at h
              split at h
              · rename_i z' hz
                obtain ⟨h1, h2⟩ := putO_eq hz
                have e1 := evO_ev hv
                have e2 := acellsO_eq hcs
                have e3 := Nat.eq_of_beq_eq_true hl
                simp only [hp, e1, e2, hl, hc, Bool.and_true, show Nat.ble (off + size) z.length = true from Nat.ble_eq_true_of_le (by omega), cond_true, h2]
                exact buildO_eq h
              · cases h
def setBO : List (Nat × List AV) → Nat → List AV → Option (List (Nat × List AV))
  | [], _, _ => some []
  | (k, c) :: r, n, cs => match setBO r n cs with
    | some r' => bif Nat.beq k n then some ((k, cs) :: r') else some ((k, c) :: r')
    | none => none
theorem setBO_eq : ∀ {bl r : List (Nat × List AV)} {n : Nat} {cs : List AV}, setBO bl n cs = some r → setB bl n cs = r
  | [], r, n, cs, h => by simpa [setBO, setB] using h
  | (k, c) :: bl, r, n, cs, h => by
    simp only [setBO] at h
    split at h
    · rename_i r' hr
      have := setBO_eq hr
      simp only [setB, List.map_cons] at this ⊢
      rw [this]
      cases hb : Nat.beq k n
      · rw [hb] at h; simpa using h
      · rw [hb] at h; simpa using h
    · cases h
def iniO : Nat → List AV → Option (List (Nat × AV))
  | _, [] => some []
  | k, x :: xs => match iniO (k + 1) xs with | some r => some ((k, x) :: r) | none => none
theorem iniO_eq : ∀ {xs : List AV} {k : Nat} {r : List (Nat × AV)}, iniO k xs = some r → (xs.zipIdx k).map (fun p => (p.2, p.1)) = r
  | [], k, r, h => by simpa [iniO] using h
  | x :: xs, k, r, h => by
    simp only [iniO] at h
    split at h
    · rename_i r' hr
      simp only [Option.some.injEq] at h
      simp [List.zipIdx_cons, iniO_eq hr, h]
    · cases h
theorem callOk {P : Program} {f nt : Nat} {fn : Func} {rs : Array ResultVar} {c : Code} {args : List AV} {tm : List (Nat × AV)} {R : AV → Prop} (hf : P.funcs[f]? = some fn) (hnt : fn.ntmps = nt) (hrs : fn.results = rs) (hb : fn.body = some c) (hn : Nat.ble args.length nt = true) (htm : iniO 0 args = some tm)
    (h : ∀ (B : Nat) (w0 : World) (I0 : Nat → Nat → Prop), W ⟨P, B, w0, nt, fun _ => False, [], I0, fun _ _ _ => False, none, []⟩ c (retQ ⟨P, B, w0, nt, fun _ => False, [], I0, fun _ _ _ => False, none, []⟩ rs.toList R) ⟨tm, [], []⟩) : CallOk P f args R :=
  CallOk_of_W hf hnt hrs hb (Nat.le_of_ble_eq_true hn) (by rw [iniO_eq htm]; exact h)
def opsO (tm : List (Nat × AV)) : List Operand → Option (List AV)
  | [] => some []
  | x :: r => match evO tm x with
    | none => none
    | some v => match opsO tm r with | some vs => some (v :: vs) | none => none
theorem opsO_eq {tm : List (Nat × AV)} : ∀ {xs : List Operand} {r : List AV}, opsO tm xs = some r → xs.map (ev tm) = r
  | [], r, h => by simpa [opsO] using h
  | x :: xs, r, h => by
    simp only [opsO] at h
    split at h
    · cases h
    · rename_i v hv
      split at h
      · rename_i vs hvs
        simp only [Option.some.injEq] at h
        simp [evO_ev hv, opsO_eq hvs, h]
      · cases h
section
variable {E : En} {bl : List (Nat × List AV)} {tm : List (Nat × AV)} {d : Option Tmp} {ty : TypeId} {pos : String} {af : Array Edge} {gd : Option (Nat × Bool)}
theorem q_move {x : Operand} {v : AV} (h : evO tm x = some v) : QV E bl tm ⟨d, .move x, ty, pos, af, gd⟩ v [] [] := QV_move (evO_ev h)
theorem q_assign {x : Operand} {v : AV} (h : evO tm x = some v) : QV E bl tm ⟨d, .assign x, ty, pos, af, gd⟩ v [] [] := QV_assign (evO_ev h)
theorem q_pick {c x y : Operand} {b : Bool} {v : AV} (hc : ev tm c = .v (.bool b)) (h : (bif b then evO tm x else evO tm y) = some v) : QV E bl tm ⟨d, .pick c x y, ty, pos, af, gd⟩ v [] [] :=
  QV_pick hc (by cases b <;> exact evO_ev h)
theorem q_load {t : Nat} {x : Operand} {n o sz : Nat} {ag : Bool} {cs ds : List AV} {v : AV} [ht : TyOk E.P t ag sz] (hx : ev tm x = .ptr n o) (hb : lookB bl n = some cs) (hd : dropO o cs = some ds) (h : loadO ag sz ds = some v) : QV E bl tm ⟨d, .load t x, ty, pos, af, gd⟩ v [] [] :=
  QV_load hx hb (by rw [dropO_eq hd]; exact loadO_eq h)
theorem q_loadE {t : Nat} {x : Operand} {sz : Nat} {ag : Bool} {cs : List AV} {v : AV} [ht : TyOk E.P t ag sz] (hx : ev tm x = .eptr cs) (h : loadO ag sz cs = some v) : QV E bl tm ⟨d, .load t x, ty, pos, af, gd⟩ v [] [] := QV_loadE hx (loadO_eq h)
theorem q_fieldAddrE {s f : Nat} {x : Operand} {cs ds : List AV} {off sz : Nat} {ag : Bool} [hf : FldOk E.P s f off ag sz] (hx : ev tm x = .eptr cs) (h : dropO off cs = some ds) : QV E bl tm ⟨d, .fieldAddr s x f, ty, pos, af, gd⟩ (.eptr ds) [] [] := by
  have := QV_fieldAddrE (E := E) (bl := bl) (tm := tm) (d := d) (ty := ty) (pos := pos) (af := af) (gd := gd) (s := s) (f := f) hx
  rwa [dropO_eq h] at this
theorem q_field {s f : Nat} {x : Operand} {cs ds : List AV} {off sz : Nat} {ag : Bool} {v : AV} [hf : FldOk E.P s f off ag sz] (hx : ev tm x = .agg cs) (hd : dropO off cs = some ds) (h : loadO ag sz ds = some v) (hl : Nat.ble (off + sz) cs.length = true) : QV E bl tm ⟨d, .field s x f, ty, pos, af, gd⟩ v [] [] := by
  refine QV_field hx ?_ (Nat.le_of_ble_eq_true hl)
  have h' := loadO_eq h
  have e := dropO_eq hd
  cases ag
  · simp only [aload, cond_false] at h' ⊢
    rw [← h', ← e, List.head?_drop]
  · simp only [aload, cond_true] at h' ⊢
    cases hb : Nat.ble sz ds.length
    · rw [hb] at h'; cases h'
    · rw [hb] at h'; rw [e]; exact h'
theorem q_box {t : Nat} {x : Operand} {v : AV} {n : Nat} {cs : List AV} (hx : evO tm x = some v) (hc : isC v = true) (h : acellsO v = some cs) : QV E bl tm ⟨d, .box t x, ty, pos, af, gd⟩ (.ptr n 0) [(n, cs)] [] := by
  have := QV_box (E := E) (bl := bl) (tm := tm) (d := d) (ty := ty) (pos := pos) (af := af) (gd := gd) (t := t) n (evO_ev hx) hc
  rwa [acellsO_eq h] at this
class ZcOk (P : Program) (t : Nat) (zc : outParam (List AV)) : Prop where
  ok : ∃ z, ZeroOk P t z ∧ z.cells.toList.map AV.v = zc
theorem q_alloc {t n : Nat} {zc : List AV} [hz : ZcOk E.P t zc] : QV E bl tm ⟨d, .alloc t, ty, pos, af, gd⟩ (.ptr n 0) [(n, zc)] [] := by
  obtain ⟨z, h1, h2⟩ := hz.ok
  have := QV_alloc (E := E) (bl := bl) (tm := tm) (d := d) (ty := ty) (pos := pos) (af := af) (gd := gd) (t := t) n
  rwa [h2] at this
def topsO : List AV → Option (List AV)
  | [] => some []
  | _ :: r => match topsO r with | some s => some (.top :: s) | none => none
theorem topsO_eq : ∀ {l r : List AV}, topsO l = some r → r.all isTop = true ∧ r.length = l.length
  | [], r, h => by simp [topsO] at h; subst h; simp
  | x :: l, r, h => by
    simp only [topsO] at h
    split at h
    · rename_i s hs
      simp only [Option.some.injEq] at h
      subst h
      obtain ⟨h1, h2⟩ := topsO_eq hs
      exact ⟨by simp only [List.all_cons, h1, isTop, Bool.and_self], by simp [h2]⟩
    · cases h
theorem q_allocT {t n : Nat} {zc ts : List AV} [hz : ZcOk E.P t zc] (h : topsO zc = some ts) : QV E bl tm ⟨d, .alloc t, ty, pos, af, gd⟩ (.ptr n 0) [(n, ts)] [] :=
  QV_tops q_alloc (topsO_eq h).1 (topsO_eq h).2
theorem q_build {t : Nat} {ps : Array (Nat × Operand)} {z : List Value} {pl : List (Nat × Nat)} {zc out : List AV} [hb : BldOk E.P t z pl] [hz : ZcOk E.P t zc] (h : buildO (plO pl) tm zc ps.toList = some out) : QV E bl tm ⟨d, .build t ps, ty, pos, af, gd⟩ (.agg out) [] [] := by
  refine QV_build (z := z) (pl := pl) ?_
  obtain ⟨z', h1, h2⟩ := hz.ok
  obtain ⟨zv, fields, k1, k2, _⟩ := hb.bld
  have hw : ∀ w, (Result.ok z' w : Result Value) = .ok zv w := fun w => (h1.zero w).symm.trans (k1 w)
  have : z' = zv := by
    have := hw default
    simpa using this
  subst this
  rw [← k2, h2]
  have := buildO_eq h
  rwa [show plO pl = (pl[·]?) from funext fun n => plO_eq pl n] at this
theorem q_lenM {α : Type} {t : Nat} {x : Operand} {xv : AV} {T e e' by_ : Nat} {f : α → List AV} {l : List α} [hs : SlOk E.P t T e' by_] (hx : ev tm x = xv) (hr : arows xv = some (e, l.map f)) :
    QV E bl tm ⟨d, .call ⟨.builtin .len, #[x], #[t]⟩, ty, pos, af, gd⟩ (.v (.int .i64 l.length)) [] [] := by
  have := QV_len (E := E) (bl := bl) (tm := tm) (d := d) (ty := ty) (pos := pos) (af := af) (gd := gd) (t := t) (T := T) (by_ := by_) hx hr
  rwa [List.length_map] at this
theorem q_makeFunc {f : Fn} {fs cs : Array Operand} {xs ys : List AV} (hx : opsO tm fs.toList = some xs) (hy : opsO tm cs.toList = some ys) : QV E bl tm ⟨d, .makeFunc f fs cs, ty, pos, af, gd⟩ (.fn f xs ys) [] [] := by
  have := QV_makeFunc (E := E) (bl := bl) (tm := tm) (d := d) (ty := ty) (pos := pos) (af := af) (gd := gd) (f := f) (fs := fs) (cs := cs)
  rwa [opsO_eq hx, opsO_eq hy] at this
end

theorem W_condT {E : En} {Q : Exit → St → Prop} {s : St} {c : Operand} {x y : Code} (hc : ev s.tm c = .v (.bool true)) (h : W E x Q s) : W E (.cond c x y) Q s := W_cond hc (fun _ => h) (fun h => by cases h)
theorem W_condF {E : En} {Q : Exit → St → Prop} {s : St} {c : Operand} {x y : Code} (hc : ev s.tm c = .v (.bool false)) (h : W E y Q s) : W E (.cond c x y) Q s := W_cond hc (fun h => by cases h) (fun _ => h)
def splitO {α : Type} : Nat → List α → Option (List α × List α)
  | 0, l => some ([], l)
  | _ + 1, [] => none
  | n + 1, x :: xs => match splitO n xs with | some (a, b) => some (x :: a, b) | none => none
theorem splitO_eq {α : Type} : ∀ {n : Nat} {l a b : List α}, splitO n l = some (a, b) → l.take n = a ∧ l.drop n = b
  | 0, l, a, b, h => by simp [splitO] at h; simp [h]
  | n + 1, [], a, b, h => by simp [splitO] at h
  | n + 1, x :: xs, a, b, h => by
    simp only [splitO] at h
    split at h
    · rename_i a' b' hr
      obtain ⟨h1, h2⟩ := splitO_eq hr
      simp only [Option.some.injEq, Prod.mk.injEq] at h
      simp [h1, h2, h]
    · cases h
theorem wdraw {E : En} {id : Nat} {l hd tl : List Oper} {Q : Exit → St → Prop} {tm : List (Nat × AV)} {bl : List (Nat × List AV)} {ow : List Nat} (n : Nat) (hm : E.P.follows .mixedOrders = true) (hB : headB l.toArray n = true) (hT : tailB l.toArray n = true) (hs : splitO n l = some (hd, tl))
    (h : HW E l.toArray bl hd ⟨tm, bl, ow⟩ (WL E l.toArray tl Q)) : W E (.region id l.toArray true) Q ⟨tm, bl, ow⟩ := by
  obtain ⟨h1, h2⟩ := splitO_eq hs
  subst h1; subst h2
  exact W_draw n hm hB hT h
def GY (ops : Array Oper) (tm : List (Nat × AV)) : Option (Nat × Bool) → Prop
  | none => True
  | some (j, b) => ∃ d, (ops[j]?).bind (·.dst) = some d ∧ look tm d = .v (.bool b)
def GN (ops : Array Oper) (tm : List (Nat × AV)) : Option (Nat × Bool) → Prop
  | none => False
  | some (j, b) => ∃ d, (ops[j]?).bind (·.dst) = some d ∧ look tm d = .v (.bool (!b))

def GU (ops : Array Oper) (tm : List (Nat × AV)) : Option (Nat × Bool) → Prop
  | none => False
  | some (j, _) => ∃ d, (ops[j]?).bind (·.dst) = some d ∧ look tm d = .v undef

section
variable {E : En} {ops : Array Oper} {rest : List Oper} {Q : Exit → St → Prop} {K : St → Prop} {tm : List (Nat × AV)} {bl bl0 : List (Nat × List AV)} {ow : List Nat} {d : Nat} {op : Op} {ty : TypeId} {pos : String} {af : Array Edge} {gd : Option (Nat × Bool)} {v : AV} {cs : List AV}

theorem wl_gy {o : Oper} {s : St} {nb : List (Nat × List AV)} {no : List Nat} (h : QV E s.bl s.tm o v nb no) (hg : GY ops s.tm o.guard) (hd : dstB E.nt o = true) (hf : freshB nb no s = true) (hk : WL E ops rest Q (s.app o.dst v nb no)) : WL E ops (o :: rest) Q s := by
  cases hgd : o.guard with
  | none => exact WL_q h hgd hd hf hk
  | some jb =>
    obtain ⟨j, b⟩ := jb
    rw [hgd] at hg
    obtain ⟨d, h1, h2⟩ := hg
    exact WL_gy h hgd h1 h2 hd hf hk
theorem hw_gy {o : Oper} {s : St} {nb : List (Nat × List AV)} {no : List Nat} (h : QV E bl0 s.tm o v nb no) (hg : GY ops s.tm o.guard) (hd : dstB E.nt o = true) (hf : freshB nb no s = true) (hn : namesB nb o = true) (hk : HW E ops bl0 rest (s.app o.dst v nb no) K) : HW E ops bl0 (o :: rest) s K := by
  cases hgd : o.guard with
  | none => exact HW_q h hgd hd hf hn hk
  | some jb =>
    obtain ⟨j, b⟩ := jb
    rw [hgd] at hg
    obtain ⟨d, h1, h2⟩ := hg
    exact HW_gy h hgd h1 h2 hd hf hn hk
theorem wl0 (h : QV E bl tm ⟨some d, op, ty, pos, af, gd⟩ v [] []) (hg : GY ops tm gd) (hd : Nat.blt d E.nt = true) (hk : WL E ops rest Q ⟨(d, v) :: tm, bl, ow⟩) : WL E ops (⟨some d, op, ty, pos, af, gd⟩ :: rest) Q ⟨tm, bl, ow⟩ := wl_gy h hg hd (by simp [freshB]) hk
theorem wlb (h : QV E bl tm ⟨some d, op, ty, pos, af, gd⟩ v [(d, cs)] []) (hg : GY ops tm gd) (hd : Nat.blt d E.nt = true) (hf : freshB [(d, cs)] [] ⟨tm, bl, ow⟩ = true) (hk : WL E ops rest Q ⟨(d, v) :: tm, (d, cs) :: bl, ow⟩) : WL E ops (⟨some d, op, ty, pos, af, gd⟩ :: rest) Q ⟨tm, bl, ow⟩ := wl_gy h hg hd hf hk
theorem wln (hg : GN ops tm gd) (hd : Nat.blt d E.nt = true) (hk : WL E ops rest Q ⟨(d, .v undef) :: tm, bl, ow⟩) : WL E ops (⟨some d, op, ty, pos, af, gd⟩ :: rest) Q ⟨tm, bl, ow⟩ := by
  cases gd with
  | none => exact hg.elim
  | some jb =>
    obtain ⟨j, b⟩ := jb
    obtain ⟨d', h1, h2⟩ := hg
    exact WL_gn (b := !b) (c := b) rfl h1 h2 (by simp) hd hk
theorem wlnu (hg : GU ops tm gd) (hd : Nat.blt d E.nt = true) (hk : WL E ops rest Q ⟨(d, .v undef) :: tm, bl, ow⟩) : WL E ops (⟨some d, op, ty, pos, af, gd⟩ :: rest) Q ⟨tm, bl, ow⟩ := by
  cases gd with
  | none => exact hg.elim
  | some jb =>
    obtain ⟨j, b⟩ := jb
    obtain ⟨d', h1, h2⟩ := hg
    exact WL_gu rfl h1 h2 hd hk
theorem hwnu (hg : GU ops tm gd) (hd : Nat.blt d E.nt = true) (hk : HW E ops bl0 rest ⟨(d, .v undef) :: tm, bl, ow⟩ K) : HW E ops bl0 (⟨some d, op, ty, pos, af, gd⟩ :: rest) ⟨tm, bl, ow⟩ K := by
  cases gd with
  | none => exact hg.elim
  | some jb =>
    obtain ⟨j, b⟩ := jb
    obtain ⟨d', h1, h2⟩ := hg
    exact HW_gu rfl h1 h2 hd hk
theorem hw0 (h : QV E bl0 tm ⟨some d, op, ty, pos, af, gd⟩ v [] []) (hg : GY ops tm gd) (hd : Nat.blt d E.nt = true) (hk : HW E ops bl0 rest ⟨(d, v) :: tm, bl, ow⟩ K) : HW E ops bl0 (⟨some d, op, ty, pos, af, gd⟩ :: rest) ⟨tm, bl, ow⟩ K := hw_gy h hg hd (by simp [freshB]) (by simp [namesB]) hk
theorem hwb (h : QV E bl0 tm ⟨some d, op, ty, pos, af, gd⟩ v [(d, cs)] []) (hg : GY ops tm gd) (hd : Nat.blt d E.nt = true) (hf : freshB [(d, cs)] [] ⟨tm, bl, ow⟩ = true) (hk : HW E ops bl0 rest ⟨(d, v) :: tm, (d, cs) :: bl, ow⟩ K) : HW E ops bl0 (⟨some d, op, ty, pos, af, gd⟩ :: rest) ⟨tm, bl, ow⟩ K := hw_gy h hg hd hf (by simp [namesB]) hk
theorem hwn (hg : GN ops tm gd) (hd : Nat.blt d E.nt = true) (hk : HW E ops bl0 rest ⟨(d, .v undef) :: tm, bl, ow⟩ K) : HW E ops bl0 (⟨some d, op, ty, pos, af, gd⟩ :: rest) ⟨tm, bl, ow⟩ K := by
  cases gd with
  | none => exact hg.elim
  | some jb =>
    obtain ⟨j, b⟩ := jb
    obtain ⟨d', h1, h2⟩ := hg
    exact HW_gn (b := !b) (c := b) rfl h1 h2 (by simp) hd hk
theorem look_again {x : AV} {k : Nat} (hx : look tm k = x) : ∀ t, look ((k, x) :: tm) t = look tm t := fun t => by
  simp only [look]
  cases hb : Nat.beq k t
  · rfl
  · have := Nat.eq_of_beq_eq_true hb
    subst this; simp [hx]
theorem WL_same {l : List Oper} {s s' : St} (h1 : s.bl = s'.bl) (h2 : s.ow = s'.ow) (h3 : ∀ t, look s.tm t = look s'.tm t) (h : WL E ops l Q s) : WL E ops l Q s' := fun g a w hi =>
  h g a w ⟨by rw [h1, h2]; exact hi.mem, fun t => by rw [h3]; exact hi.tm t, hi.de, hi.sz⟩
theorem QV_same {o : Oper} {tm' : List (Nat × AV)} {v : AV} {nb : List (Nat × List AV)} {no : List Nat} (h3 : ∀ t, look tm t = look tm' t) (h : QV E bl tm o v nb no) : QV E bl tm' o v nb no := fun g w ρ bl' ow' hm hb hf hn hop =>
  h g w ρ bl' ow' hm hb hf hn fun x hx => by rw [ev_same (tm' := tm') fun t _ => h3 t]; exact hop x hx
theorem QI_same {o : Oper} {tm' : List (Nat × AV)} {n : Nat} {cs : List AV} (h3 : ∀ t, look tm t = look tm' t) (h : QI E tm o n cs) : QI E tm' o n cs :=
  ⟨h.1, h.2.1, h.2.2.1, h.2.2.2.1, fun g w ρ bl' ow' hm h1 h2 hop => h.2.2.2.2 g w ρ bl' ow' hm h1 h2 fun x hx => by rw [ev_same (tm' := tm') fun t _ => h3 t]; exact hop x hx⟩
theorem app_same {s s' : St} {d : Option Tmp} {v : AV} {nb : List (Nat × List AV)} {no : List Nat} (h3 : ∀ t, look s.tm t = look s'.tm t) : ∀ t, look (s.app d v nb no).tm t = look (s'.app d v nb no).tm t := fun t => by
  cases d with
  | none => exact h3 t
  | some d => simp only [St.app, look]; rw [h3]
theorem HW_same {ops' : Array Oper} {tl : List Oper} : ∀ (l : List Oper) (s s' : St), s.bl = s'.bl → s.ow = s'.ow → (∀ t, look s.tm t = look s'.tm t) → HW E ops bl0 l s (WL E ops' tl Q) → HW E ops bl0 l s' (WL E ops' tl Q)
  | [], _, _, h1, h2, h3, h => WL_same h1 h2 h3 h
  | o :: l, s, s', h1, h2, h3, h => by
    have hf : ∀ nb no, freshB nb no s = freshB nb no s' := fun nb no => by simp only [freshB, h1, h2]
    have hb : ∀ v nb no, (s.app o.dst v nb no).bl = (s'.app o.dst v nb no).bl ∧ (s.app o.dst v nb no).ow = (s'.app o.dst v nb no).ow := fun v nb no => by simp only [St.app, h1, h2]; exact ⟨trivial, trivial⟩
    rcases h with ⟨v, nb, no, k1, k2, k3, k4, k5⟩ | ⟨j, d, b, k1, k2, k3, k4, k5⟩ | ⟨n, cs, k1, k2, k3⟩ | ⟨j, d, b, k1, k2, k3, k4, k5⟩
    · refine .inl ⟨v, nb, no, QV_same h3 k1, k2, ⟨by rw [← hf]; exact k3.1, k3.2⟩, ?_, HW_same l _ _ (hb v nb no).1 (hb v nb no).2 (app_same h3) k5⟩
      rcases k4 with k4 | ⟨j, d, b, e1, e2, e3⟩
      · exact .inl k4
      · exact .inr ⟨j, d, b, e1, e2, by rw [← h3]; exact e3⟩
    · exact .inr (.inl ⟨j, d, b, k1, k2, by rw [← h3]; exact k3, k4, HW_same l _ _ (hb _ _ _).1 (hb _ _ _).2 (app_same h3) k5⟩)
    · exact .inr (.inr (.inl ⟨n, cs, QI_same h3 k1, by rw [← h1]; exact k2, HW_same l _ _ (by simp only [St.app, h1]) (by simp only [St.app, h2]) (app_same h3) k3⟩))
    · exact .inr (.inr (.inr ⟨j, d, b, k1, k2, by rw [← h3]; exact k3, k4, HW_same l _ _ (hb _ _ _).1 (hb _ _ _).2 (app_same h3) k5⟩))
theorem wls {j d' : Nat} {b c : Bool} (_ : (ops[j]?).bind (·.dst) = some d') (hb : look tm d' = .v (.bool c)) (ht : c = true → WL E ops (⟨some d, op, ty, pos, af, some (j, b)⟩ :: rest) Q ⟨(d', .v (.bool true)) :: tm, bl, ow⟩) (hf : c = false → WL E ops (⟨some d, op, ty, pos, af, some (j, b)⟩ :: rest) Q ⟨(d', .v (.bool false)) :: tm, bl, ow⟩) :
    WL E ops (⟨some d, op, ty, pos, af, some (j, b)⟩ :: rest) Q ⟨tm, bl, ow⟩ := by
  cases c
  · exact WL_same (s := ⟨(d', .v (.bool false)) :: tm, bl, ow⟩) (s' := ⟨tm, bl, ow⟩) rfl rfl (look_again hb) (hf rfl)
  · exact WL_same (s := ⟨(d', .v (.bool true)) :: tm, bl, ow⟩) (s' := ⟨tm, bl, ow⟩) rfl rfl (look_again hb) (ht rfl)
theorem hws {ops' : Array Oper} {tl : List Oper} {j d' : Nat} {b c : Bool} (_ : (ops[j]?).bind (·.dst) = some d') (hb : look tm d' = .v (.bool c)) (ht : c = true → HW E ops bl0 (⟨some d, op, ty, pos, af, some (j, b)⟩ :: rest) ⟨(d', .v (.bool true)) :: tm, bl, ow⟩ (WL E ops' tl Q))
    (hf : c = false → HW E ops bl0 (⟨some d, op, ty, pos, af, some (j, b)⟩ :: rest) ⟨(d', .v (.bool false)) :: tm, bl, ow⟩ (WL E ops' tl Q)) : HW E ops bl0 (⟨some d, op, ty, pos, af, some (j, b)⟩ :: rest) ⟨tm, bl, ow⟩ (WL E ops' tl Q) := by
  cases c
  · exact HW_same _ ⟨(d', .v (.bool false)) :: tm, bl, ow⟩ ⟨tm, bl, ow⟩ rfl rfl (look_again hb) (hf rfl)
  · exact HW_same _ ⟨(d', .v (.bool true)) :: tm, bl, ow⟩ ⟨tm, bl, ow⟩ rfl rfl (look_again hb) (ht rfl)
theorem wlc {x : Operand} {xs : Array Operand} {ts : Array TypeId} {f : Nat} {ys : List AV} {R : AV → Prop} [hf : FnOk E.P f] (h : CallOk E.P f ys R) (hx : ev tm x = .v (.func (.func f) #[] #[])) (ha : LeDs (xs.toList.map (ev tm)) ys) (ho : ∀ r, R r → ownsIn [] r = true) (hd : Nat.blt d E.nt = true)
    (hk : ∀ r, R r → WL E ops rest Q ⟨(d, ren 0 r) :: tm, bl, ow⟩) : WL E ops (⟨some d, .call ⟨.value x, xs, ts⟩, ty, pos, af, none⟩ :: rest) Q ⟨tm, bl, ow⟩ := by
  intro g a w hi
  unfold wpListIn
  rw [show Region.wanted ⟨some d, .call ⟨.value x, xs, ts⟩, ty, pos, af, none⟩ (yielded ops a.tmps) = true by simp [Region.wanted]]
  refine wpIn_of_wp (fun _ h => by cases h) ?_
  have h1 := rep_ev hi.tm x
  have h2 : reps g w (xs.toList.map (ev tm)) (xs.toList.map a.eval) := reps_map _ fun y _ => rep_ev hi.tm y
  rw [hx] at h1
  simp only [rep] at h1
  obtain ⟨fn, f1, f2, f3⟩ := hf.ok
  have f2' : fn.name ≠ "runtime.NumGoroutine" := by simpa using f2
  have f3' : fn.body ≠ none := fun e => by rw [e] at f3; simp at f3
  have hrun : (execOp a.eval ⟨some d, .call ⟨.value x, xs, ts⟩, ty, pos, af, none⟩).run E.P w = .ok (.enter f (xs.map a.eval)) w := by
    simp [execOp, resolve, Deferred.ofValue, h1, invoke, callFunc, f1, f2', f3']
  unfold Oper.wp
  rw [hrun]
  have hc := h g.I w (xs.map a.eval) hi.mem.cell (by rw [Array.toList_map]; exact dreps_leDs ha h2)
  refine hc.mono fun e w' he => ?_
  obtain ⟨y, r, g', rfl, hR, h3, h4⟩ := he
  obtain ⟨gc, h5, h6, h7, h8⟩ := hi.mem.called h4 0 [] (fun n hn => by simp at hn)
  have := hi.app (d := some d) (v := ren 0 r) (y := y) (nb := []) (no := []) (fun k hk => by cases hk; exact Nat.le_of_ble_eq_true hd) h5 (by simpa using h6) (rep_ren h7 h8 (ho r hR) h3)
  exact hk r hR gc _ w' this
theorem hwi {y : Operand} {t n sz : Nat} {ag : Bool} {c0 : AV} {ds : List AV} [ht : TyOk E.P t ag sz] (hx : ev tm (.tmp n) = .ptr n 0) (hy : evO tm y = some v) (hro : n ∉ E.ron)
    (hc : isC v = true) (ha : acellsO v = some (c0 :: ds)) (hall : (c0 :: ds).all isCell = true) (hl : Nat.beq (c0 :: ds).length sz = true) (hi : initB n sz bl = true) (hk : HW E ops bl0 rest ⟨tm, (n, c0 :: ds) :: bl, ow⟩ K) : HW E ops bl0 (⟨none, .store t (.tmp n) y, ty, pos, af, none⟩ :: rest) ⟨tm, bl, ow⟩ K := by
  have e := acellsO_eq ha
  have e2 := Nat.eq_of_beq_eq_true hl
  have := QI_store (E := E) (tm := tm) (ty := ty) (pos := pos) (af := af) (t := t) (y := y) (n := n) (v := v) hx (evO_ev hy) hro hc (by rw [e]; exact hall) (by rw [e]; exact e2) (by rw [e]; simp)
  rw [e] at this
  exact HW_i this (by rw [e2]; exact hi) hk
theorem wst {x y : Operand} {t nn o sz : Nat} {ag : Bool} {ds r : List AV} {bl' : List (Nat × List AV)} [ht : TyOk E.P t ag sz] (hx : ev tm x = .ptr nn o) (hy : evO tm y = some v) (hb : lookB bl nn = some cs) (hro : nn ∉ E.ron)
    (hc : isC v = true) (ha : acellsO v = some ds) (hall : ds.all isCell = true) (hl : Nat.beq ds.length sz = true) (hp : putO cs o ds = some r) (hs : setBO bl nn r = some bl') (hk : WL E ops rest Q ⟨tm, bl', ow⟩) : WL E ops (⟨none, .store t x y, ty, pos, af, none⟩ :: rest) Q ⟨tm, bl, ow⟩ := by
  obtain ⟨h1, h2⟩ := putO_eq hp
  have e := acellsO_eq ha
  have e2 := Nat.eq_of_beq_eq_true hl
  refine WL_t rfl (TV_store rfl hx (evO_ev hy) hb hro hc (by rw [e]; exact hall) (by rw [e]; exact e2) (by omega)) ?_
  simp only [St.app, List.nil_append]
  rw [e, h2, setBO_eq hs]
  exact hk
end
end Go.Eng
