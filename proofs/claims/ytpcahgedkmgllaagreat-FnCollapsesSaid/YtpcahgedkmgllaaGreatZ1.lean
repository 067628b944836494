/- My walking engine, part 1: abstract values of Go, and the rules of a walk over them. No program in sight. -/
import Derived.WalkKit
import Derived.TacticsIn
import Derived.OrdersIn
import Derived.WalkSpells
import Derived.WalkLawsBesides
import Derived.Handy
import Derived.StillTail
import Derived.Laws.OwnMore
namespace Go.Eng
open Go

inductive AV where
  | top
  | v (x : Value)
  | agg (cs : List AV)
  | tup (xs : List AV)
  | sl (e : Nat) (rows : List (List AV))
  | own (n T e : Nat) (rows : List (List AV))
  | ptr (n off : Nat)
  | eptr (cs : List AV)
  | fn (f : Fn) (first captured : List AV)
  | arr (n T e len : Nat)

/- Data reads so: cells that I names are never written again. -/
mutual
def drep (I : Nat → Nat → Prop) (w : World) : AV → Value → Prop
  | .top, _ => True
  | .v x, y => y = x
  | .agg cs, y => ∃ a : Array Value, y = .agg a ∧ dreps I w cs a.toList
  | .sl e rows, y => ∃ A c, y = .slice A rows.length c ∧ (rows = [] ∨ ∃ b o, A = some ⟨b, o, none⟩ ∧ drows I w e b o rows) ∧ rows.length ≤ c
  | .tup _, _ => False
  | .own .., _ => False
  | .ptr .., _ => False
  | .eptr .., _ => False
  | .fn .., _ => False
  | .arr .., _ => False
def dreps (I : Nat → Nat → Prop) (w : World) : List AV → List Value → Prop
  | [], ys => ys = []
  | x :: xs, ys => ∃ y zs, ys = y :: zs ∧ drep I w x y ∧ dreps I w xs zs
def dcells (I : Nat → Nat → Prop) (w : World) : Nat → Nat → List AV → Prop
  | _, _, [] => True
  | b, o, x :: xs => (∃ z, w.cell? ⟨b, o, none⟩ = some z ∧ I b o ∧ drep I w x z) ∧ dcells I w b (o + 1) xs
def drows (I : Nat → Nat → Prop) (w : World) (e : Nat) : Nat → Nat → List (List AV) → Prop
  | _, _, [] => True
  | b, o, r :: rs => (r.length = e ∧ dcells I w b o r) ∧ drows I w e b (o + e) rs
end

def Keeps (I : Nat → Nat → Prop) (w w' : World) : Prop := ∀ b o, I b o → w'.cell? ⟨b, o, none⟩ = w.cell? ⟨b, o, none⟩

mutual
theorem drep_mono {I I' : Nat → Nat → Prop} {w w' : World} (hI : ∀ b o, I b o → I' b o) (hk : Keeps I w w') : ∀ {x : AV} {y : Value}, drep I w x y → drep I' w' x y
  | .top, _, _ => by simp [drep]
  | .v x, y, h => by simpa [drep] using h
  | .agg cs, y, h => by
    simp only [drep] at h ⊢
    obtain ⟨a, e, h⟩ := h
    exact ⟨a, e, dreps_mono hI hk h⟩
  | .sl e rows, y, h => by
    simp only [drep] at h ⊢
    obtain ⟨A, c, hy, h, hc⟩ := h
    refine ⟨A, c, hy, ?_, hc⟩
    rcases h with h | ⟨b, o, hA, h⟩
    · exact .inl h
    · exact .inr ⟨b, o, hA, drows_mono hI hk h⟩
  | .tup _, _, h => by simp [drep] at h
  | .own .., _, h => by simp [drep] at h
  | .ptr .., _, h => by simp [drep] at h
  | .eptr .., _, h => by simp [drep] at h
  | .fn .., _, h => by simp [drep] at h
  | .arr .., _, h => by simp [drep] at h
theorem dreps_mono {I I' : Nat → Nat → Prop} {w w' : World} (hI : ∀ b o, I b o → I' b o) (hk : Keeps I w w') : ∀ {xs : List AV} {ys : List Value}, dreps I w xs ys → dreps I' w' xs ys
  | [], ys, h => by simpa [dreps] using h
  | x :: xs, ys, h => by
    simp only [dreps] at h ⊢
    obtain ⟨y, zs, e, h1, h2⟩ := h
    exact ⟨y, zs, e, drep_mono hI hk h1, dreps_mono hI hk h2⟩
theorem dcells_mono {I I' : Nat → Nat → Prop} {w w' : World} (hI : ∀ b o, I b o → I' b o) (hk : Keeps I w w') : ∀ {xs : List AV} {b o : Nat}, dcells I w b o xs → dcells I' w' b o xs
  | [], _, _, _ => by simp [dcells]
  | x :: xs, b, o, h => by
    simp only [dcells] at h ⊢
    obtain ⟨⟨z, h1, h2, h3⟩, h4⟩ := h
    exact ⟨⟨z, (hk b o h2).trans h1, hI _ _ h2, drep_mono hI hk h3⟩, dcells_mono hI hk h4⟩
theorem drows_mono {I I' : Nat → Nat → Prop} {w w' : World} (hI : ∀ b o, I b o → I' b o) (hk : Keeps I w w') : ∀ {e : Nat} {rs : List (List AV)} {b o : Nat}, drows I w e b o rs → drows I' w' e b o rs
  | _, [], _, _, _ => by simp [drows]
  | e, r :: rs, b, o, h => by
    simp only [drows] at h ⊢
    exact ⟨⟨h.1.1, dcells_mono hI hk h.1.2⟩, drows_mono hI hk h.2⟩
end

section
variable {I : Nat → Nat → Prop} {w : World}

theorem dreps_length : ∀ {xs : List AV} {ys : List Value}, dreps I w xs ys → ys.length = xs.length
  | [], ys, h => by simp [dreps] at h; simp [h]
  | x :: xs, ys, h => by
    simp only [dreps] at h
    obtain ⟨y, zs, e, h1, h2⟩ := h
    simp [e, dreps_length h2]
theorem dreps_append : ∀ {xs xs' : List AV} {ys ys' : List Value}, dreps I w xs ys → dreps I w xs' ys' → dreps I w (xs ++ xs') (ys ++ ys')
  | [], xs', ys, ys', h, h' => by simp [dreps] at h; simpa [h] using h'
  | x :: xs, xs', ys, ys', h, h' => by
    simp only [dreps] at h
    obtain ⟨y, zs, rfl, h1, h2⟩ := h
    simp only [List.cons_append, dreps]
    exact ⟨y, zs ++ ys', rfl, h1, dreps_append h2 h'⟩
theorem dcells_list : ∀ {xs : List AV} {b o : Nat}, dcells I w b o xs → ∃ zs, dreps I w xs zs ∧ zs.length = xs.length ∧ ∀ j z, zs[j]? = some z → w.cell? ⟨b, o + j, none⟩ = some z ∧ I b (o + j)
  | [], b, o, _ => ⟨[], by simp [dreps], rfl, fun j z h => by simp at h⟩
  | x :: xs, b, o, h => by
    simp only [dcells] at h
    obtain ⟨⟨z, h1, h2, h3⟩, h4⟩ := h
    obtain ⟨zs, g1, g2, g3⟩ := dcells_list h4
    refine ⟨z :: zs, by simp only [dreps]; exact ⟨z, zs, rfl, h3, g1⟩, by simp [g2], fun j u hj => ?_⟩
    cases j with
    | zero => simp at hj; subst hj; exact ⟨h1, h2⟩
    | succ j => have := g3 j u (by simpa using hj); rwa [show o + (j + 1) = o + 1 + j by omega]
theorem dcells_of_list : ∀ {xs : List AV} {b o : Nat} {zs : List Value}, dreps I w xs zs → (∀ j z, zs[j]? = some z → w.cell? ⟨b, o + j, none⟩ = some z ∧ I b (o + j)) → dcells I w b o xs
  | [], b, o, zs, _, _ => by simp [dcells]
  | x :: xs, b, o, zs, h, hz => by
    simp only [dreps] at h
    obtain ⟨y, ys, rfl, h1, h2⟩ := h
    simp only [dcells]
    refine ⟨⟨y, (hz 0 y rfl).1, (hz 0 y rfl).2, h1⟩, dcells_of_list h2 fun j z hj => ?_⟩
    have := hz (j + 1) z (by simpa using hj)
    rwa [show o + (j + 1) = o + 1 + j by omega] at this
theorem dcells_drop : ∀ {xs : List AV} {b o k : Nat}, dcells I w b o xs → dcells I w b (o + k) (xs.drop k)
  | [], b, o, k, _ => by simp [dcells]
  | x :: xs, b, o, 0, h => h
  | x :: xs, b, o, k + 1, h => by
    simp only [dcells] at h
    have := dcells_drop (k := k) h.2
    rwa [show o + 1 + k = o + (k + 1) by omega] at this
theorem drows_get : ∀ {rs : List (List AV)} {e b o i : Nat} {r : List AV}, drows I w e b o rs → rs[i]? = some r → r.length = e ∧ dcells I w b (o + i * e) r
  | [], e, b, o, i, r, h, hr => by simp at hr
  | r' :: rs, e, b, o, i, r, h, hr => by
    simp only [drows] at h
    cases i with
    | zero => simp at hr; subst hr; simpa using h.1
    | succ i =>
      have := drows_get h.2 (by simpa using hr)
      rwa [show o + e + i * e = o + (i + 1) * e by rw [Nat.add_mul]; omega] at this
theorem drows_drop : ∀ {rs : List (List AV)} {e b o k : Nat}, drows I w e b o rs → drows I w e b (o + k * e) (rs.drop k)
  | [], e, b, o, k, _ => by simp [drows]
  | r :: rs, e, b, o, 0, h => by simpa using h
  | r :: rs, e, b, o, k + 1, h => by
    simp only [drows] at h
    have := drows_drop (k := k) h.2
    rwa [show o + e + k * e = o + (k + 1) * e by rw [Nat.add_mul]; omega] at this
theorem drows_take : ∀ {rs : List (List AV)} {e b o k : Nat}, drows I w e b o rs → drows I w e b o (rs.take k)
  | [], e, b, o, k, _ => by simp [drows]
  | r :: rs, e, b, o, 0, h => by simp [drows]
  | r :: rs, e, b, o, k + 1, h => by
    simp only [drows] at h
    simp only [List.take_succ_cons, drows]
    exact ⟨h.1, drows_take h.2⟩
theorem flatten_length : ∀ {rs : List (List AV)} {e : Nat}, (∀ r ∈ rs, r.length = e) → rs.flatten.length = rs.length * e
  | [], e, _ => by simp
  | r :: rs, e, h => by
    have h1 := h r (by simp)
    have h2 := flatten_length (fun r' hr => h r' (by simp [hr]) : ∀ r ∈ rs, r.length = e)
    simp [h1, h2, Nat.add_mul]; omega
theorem dcells_append : ∀ {xs ys : List AV} {b o : Nat}, dcells I w b o (xs ++ ys) ↔ dcells I w b o xs ∧ dcells I w b (o + xs.length) ys
  | [], ys, b, o => by simp [dcells]
  | x :: xs, ys, b, o => by
    simp only [List.cons_append, dcells, dcells_append (xs := xs), List.length_cons, and_assoc]
    rw [show o + 1 + xs.length = o + (xs.length + 1) by omega]
theorem drows_iff : ∀ {rs : List (List AV)} {e b o : Nat}, drows I w e b o rs ↔ (∀ r ∈ rs, r.length = e) ∧ dcells I w b o rs.flatten
  | [], e, b, o => by simp [drows, dcells]
  | r :: rs, e, b, o => by
    simp only [drows, List.flatten_cons, dcells_append, drows_iff (rs := rs), List.mem_cons, forall_eq_or_imp]
    constructor
    · rintro ⟨⟨h1, h2⟩, h3, h4⟩; exact ⟨⟨h1, h3⟩, h2, by rwa [h1]⟩
    · rintro ⟨⟨h1, h3⟩, h2, h4⟩; exact ⟨⟨h1, h2⟩, h3, by rwa [h1] at h4⟩
end

structure Gh where
  I : Nat → Nat → Prop
  m : Nat → Option Nat
  om : Nat → Option Nat
  ow : Nat → Prop
  mt : Nat → Nat

def Cap (w : World) (b k : Nat) : Prop := ∃ A T, w.heap[b]? = some (.cells A T (0, 0)) ∧ A.size = k
theorem Cap.same {w w' : World} {b k : Nat} (h : w'.heap[b]? = w.heap[b]?) (hc : Cap w b k) : Cap w' b k := by unfold Cap at *; rw [h]; exact hc
theorem Cap.lt {w : World} {b k : Nat} (hc : Cap w b k) : b < w.heap.size := by
  obtain ⟨A, T, h, _⟩ := hc
  exact (Array.getElem?_eq_some_iff.1 h).1
def ownRep (g : Gh) (w : World) (n T e : Nat) (rows : List (List AV)) (y : Value) : Prop :=
  g.ow n ∧ y.ownBlock = g.om n ∧ ∃ xs, w.ownsRow 0 T e y rows.length xs ∧ dreps g.I w rows.flatten xs ∧ (∀ r ∈ rows, r.length = e) ∧
    ∀ b, g.om n = some b → (∀ o, o < rows.length * e → g.I b o) ∧ ∀ o, rows.length * e ≤ o → ¬ g.I b o

mutual
def rep (g : Gh) (w : World) : AV → Value → Prop
  | .top, _ => True
  | .v x, y => y = x
  | .agg cs, y => ∃ a : Array Value, y = .agg a ∧ reps g w cs a.toList
  | .tup cs, y => ∃ a : Array Value, y = .tuple a ∧ reps g w cs a.toList
  | .sl e rows, y => drep g.I w (.sl e rows) y
  | .own n T e rows, y => ownRep g w n T e rows y
  | .ptr n off, y => ∃ b, g.m n = some b ∧ y = .pointer (some ⟨b, off, none⟩)
  | .eptr cs, y => ∃ b o, y = .pointer (some ⟨b, o, none⟩) ∧ dcells g.I w b o cs
  | .fn f fs cs, y => ∃ a b : Array Value, y = .func f a b ∧ reps g w fs a.toList ∧ reps g w cs b.toList
  | .arr n T e len, y => ∃ b c, g.m n = some b ∧ g.mt n = T ∧ y = .slice (some ⟨b, 0, none⟩) len c ∧ len ≤ c ∧ (n < 1000000 → c = len) ∧ (7000000 ≤ n → c ≤ maxLen ∧ Cap w b (c * e))
def reps (g : Gh) (w : World) : List AV → List Value → Prop
  | [], ys => ys = []
  | x :: xs, ys => ∃ y zs, ys = y :: zs ∧ rep g w x y ∧ reps g w xs zs
end

section
variable {g : Gh} {w : World}
theorem reps_length : ∀ {xs : List AV} {ys : List Value}, reps g w xs ys → ys.length = xs.length
  | [], ys, h => by simp [reps] at h; simp [h]
  | x :: xs, ys, h => by
    simp only [reps] at h
    obtain ⟨y, zs, e, h1, h2⟩ := h
    simp [e, reps_length h2]
theorem reps_get : ∀ {xs : List AV} {ys : List Value} {i : Nat} {x : AV}, reps g w xs ys → xs[i]? = some x → ∃ y, ys[i]? = some y ∧ rep g w x y
  | [], ys, i, x, h, hx => by simp at hx
  | x' :: xs, ys, i, x, h, hx => by
    simp only [reps] at h
    obtain ⟨y, zs, rfl, h1, h2⟩ := h
    cases i with
    | zero => simp at hx; subst hx; exact ⟨y, rfl, h1⟩
    | succ i => simpa using reps_get h2 (by simpa using hx)
theorem reps_append : ∀ {xs xs' : List AV} {ys ys' : List Value}, reps g w xs ys → reps g w xs' ys' → reps g w (xs ++ xs') (ys ++ ys')
  | [], xs', ys, ys', h, h' => by simp [reps] at h; simpa [h] using h'
  | x :: xs, xs', ys, ys', h, h' => by
    simp only [reps] at h
    obtain ⟨y, zs, rfl, h1, h2⟩ := h
    simp only [List.cons_append, reps]
    exact ⟨y, zs ++ ys', rfl, h1, reps_append h2 h'⟩
theorem reps_take : ∀ {xs : List AV} {ys : List Value} {k : Nat}, reps g w xs ys → reps g w (xs.take k) (ys.take k)
  | [], ys, k, h => by simp [reps] at h; simp [h, reps]
  | x :: xs, ys, 0, h => by simp [reps]
  | x :: xs, ys, k + 1, h => by
    simp only [reps] at h
    obtain ⟨y, zs, rfl, h1, h2⟩ := h
    simp only [List.take_succ_cons, reps]
    exact ⟨y, _, rfl, h1, reps_take h2⟩
theorem reps_drop : ∀ {xs : List AV} {ys : List Value} {k : Nat}, reps g w xs ys → reps g w (xs.drop k) (ys.drop k)
  | [], ys, k, h => by simp [reps] at h; simp [h, reps]
  | x :: xs, ys, 0, h => h
  | x :: xs, ys, k + 1, h => by
    simp only [reps] at h
    obtain ⟨y, zs, rfl, h1, h2⟩ := h
    simpa using reps_drop h2
mutual
theorem rep_of_drep : ∀ {x : AV} {y : Value}, drep g.I w x y → rep g w x y
  | .top, _, _ => by simp [rep]
  | .v x, y, h => by simpa [rep, drep] using h
  | .agg cs, y, h => by
    simp only [drep] at h
    simp only [rep]
    obtain ⟨a, e, h⟩ := h
    exact ⟨a, e, reps_of_dreps h⟩
  | .sl e rows, y, h => by simpa [rep] using h
  | .tup _, _, h => by simp [drep] at h
  | .own .., _, h => by simp [drep] at h
  | .ptr .., _, h => by simp [drep] at h
  | .eptr .., _, h => by simp [drep] at h
  | .fn .., _, h => by simp [drep] at h
  | .arr .., _, h => by simp [drep] at h
theorem reps_of_dreps : ∀ {xs : List AV} {ys : List Value}, dreps g.I w xs ys → reps g w xs ys
  | [], ys, h => by simpa [reps, dreps] using h
  | x :: xs, ys, h => by
    simp only [dreps] at h
    simp only [reps]
    obtain ⟨y, zs, e, h1, h2⟩ := h
    exact ⟨y, zs, e, rep_of_drep h1, reps_of_dreps h2⟩
end
end

structure Goes (g : Gh) (w : World) (g' : Gh) (w' : World) : Prop where
  I : ∀ b o, g.I b o → g'.I b o
  keeps : Keeps g.I w w'
  m : ∀ n b, g.m n = some b → g'.m n = some b
  mt : ∀ n b, g.m n = some b → g'.mt n = g.mt n
  own : ∀ n T e rows y, ownRep g w n T e rows y → ownRep g' w' n T e rows y
  sz : ∀ n b k, 7000000 ≤ n → g.m n = some b → Cap w b k → Cap w' b k

theorem Goes.refl (g : Gh) (w : World) : Goes g w g w := ⟨fun _ _ h => h, fun _ _ _ => rfl, fun _ _ h => h, fun _ _ _ => rfl, fun _ _ _ _ _ h => h, fun _ _ _ _ _ h => h⟩
theorem Goes.trans {g g' g'' : Gh} {w w' w'' : World} (h : Goes g w g' w') (k : Goes g' w' g'' w'') : Goes g w g'' w'' :=
  ⟨fun b o hb => k.I b o (h.I b o hb), fun b o hb => (k.keeps b o (h.I b o hb)).trans (h.keeps b o hb), fun n b hb => k.m n b (h.m n b hb), fun n b hb => (k.mt n b (h.m n b hb)).trans (h.mt n b hb), fun n T e r y hy => k.own n T e r y (h.own n T e r y hy), fun n b j h7 hn hc => k.sz n b j h7 (h.m n b hn) (h.sz n b j h7 hn hc)⟩

mutual
theorem rep_goes {g g' : Gh} {w w' : World} (hg : Goes g w g' w') : ∀ {x : AV} {y : Value}, rep g w x y → rep g' w' x y
  | .top, _, _ => by simp [rep]
  | .v x, y, h => by simpa [rep] using h
  | .agg cs, y, h => by
    simp only [rep] at h ⊢
    obtain ⟨a, e, h⟩ := h
    exact ⟨a, e, reps_goes hg h⟩
  | .tup cs, y, h => by
    simp only [rep] at h ⊢
    obtain ⟨a, e, h⟩ := h
    exact ⟨a, e, reps_goes hg h⟩
  | .sl e rows, y, h => by
    simp only [rep] at h ⊢
    exact drep_mono hg.I hg.keeps h
  | .own n T e rows, y, h => by
    simp only [rep] at h ⊢
    exact hg.own _ _ _ _ _ h
  | .ptr n off, y, h => by
    simp only [rep] at h ⊢
    obtain ⟨b, h1, h2⟩ := h
    exact ⟨b, hg.m _ _ h1, h2⟩
  | .eptr cs, y, h => by
    simp only [rep] at h ⊢
    obtain ⟨b, o, h1, h2⟩ := h
    exact ⟨b, o, h1, dcells_mono hg.I hg.keeps h2⟩
  | .fn f fs cs, y, h => by
    simp only [rep] at h ⊢
    obtain ⟨a, b, h1, h2, h3⟩ := h
    exact ⟨a, b, h1, reps_goes hg h2, reps_goes hg h3⟩
  | .arr n T e len, y, h => by
    simp only [rep] at h ⊢
    obtain ⟨b, c, h1, h2, h3, h4, h5, h6⟩ := h
    exact ⟨b, c, hg.m _ _ h1, (hg.mt _ _ h1).trans h2, h3, h4, h5, fun hn => ⟨(h6 hn).1, hg.sz _ _ _ hn h1 (h6 hn).2⟩⟩
theorem reps_goes {g g' : Gh} {w w' : World} (hg : Goes g w g' w') : ∀ {xs : List AV} {ys : List Value}, reps g w xs ys → reps g' w' xs ys
  | [], ys, h => by simpa [reps] using h
  | x :: xs, ys, h => by
    simp only [reps] at h ⊢
    obtain ⟨y, zs, e, h1, h2⟩ := h
    exact ⟨y, zs, e, rep_goes hg h1, reps_goes hg h2⟩
end

theorem drep_of_own {g : Gh} {w : World} {n T e : Nat} {rows : List (List AV)} {y : Value} (h : ownRep g w n T e rows y) : drep g.I w (.sl e rows) y := by
  obtain ⟨h1, h2, xs, h3, h4, h5, h6⟩ := h
  simp only [drep]
  rcases h3.2 with ⟨rfl, hn⟩ | ⟨b, cap, cur, rfl, _, hh, hnc, hcm, hcs, htake⟩
  · exact ⟨none, 0, by rw [hn], .inl (List.length_eq_zero_iff.1 hn), by rw [hn]; exact Nat.le_refl _⟩
  · refine ⟨_, cap, rfl, .inr ⟨b, 0, rfl, drows_iff.2 ⟨h5, dcells_of_list h4 fun j z hj => ?_⟩⟩, hnc⟩
    have hlt : j < rows.length * e := by
      have := (List.getElem?_eq_some_iff.1 hj).1
      rw [h3.1] at this; exact this
    rw [Nat.zero_add]
    refine ⟨?_, (h6 b (by rw [← h2]; rfl)).1 j hlt⟩
    rw [World.ownsRow.cellAt h3 j hlt]; exact hj
end Go.Eng
