/- The code around statements; forgetting; calls; a function as a whole. No program in sight. -/
import Derived.Test.YtikbndfbjgdldaaED
namespace Go.Eng
open Go

def thenW (E : En) (y : Code) (Q : Exit → St → Prop) : Exit → St → Prop
  | .normal, s => W E y Q s
  | e, s => Q e s
theorem W_seq {E : En} {x y : Code} {Q : Exit → St → Prop} {s : St} (h : W E x (thenW E y Q) s) : W E (.seq x y) Q s := fun g a w hi =>
  wp_seq (wp_mono (h g a w hi) fun e a' w' hq => by
    obtain ⟨g', s', h1, h2⟩ := hq
    cases e with
    | normal => exact h1 g' a' w' h2
    | _ => exact ⟨g', s', h1, h2⟩)
theorem W_skip {E : En} {Q : Exit → St → Prop} {s : St} (h : Q .normal s) : W E .skip Q s := fun g _ _ hi => wp_skip ⟨g, s, h, hi⟩
theorem W_ret {E : En} {Q : Exit → St → Prop} {s : St} (h : Q .ret s) : W E .ret Q s := fun g _ _ hi => wp_ret ⟨g, s, h, hi⟩
theorem W_exit {E : En} {Q : Exit → St → Prop} {s : St} {id : Nat} (h : Q (.exit id) s) : W E (.exit id) Q s := fun g _ _ hi => wp_exit ⟨g, s, h, hi⟩
theorem W_label {E : En} {Q : Exit → St → Prop} {s : St} {id : Nat} (h : Q .normal s) : W E (.label id) Q s := fun g _ _ hi => wp_label ⟨g, s, h, hi⟩
theorem W_cond {E : En} {Q : Exit → St → Prop} {s : St} {c : Operand} {x y : Code} {b : Bool} (hc : ev s.tm c = .v (.bool b)) (ht : b = true → W E x Q s) (hf : b = false → W E y Q s) : W E (.cond c x y) Q s := fun g a w hi => by
  have h1 := rep_ev hi.tm c
  rw [hc] at h1
  simp only [rep] at h1
  exact wp_cond_split h1 (fun h => ht h g a w hi) (fun h => hf h g a w hi)
def inBlk (id : Nat) (Q : Exit → St → Prop) : Exit → St → Prop
  | .exit i, s => bif Nat.beq i id then Q .normal s else Q (.exit i) s
  | e, s => Q e s
theorem W_block {E : En} {Q : Exit → St → Prop} {s : St} {id : Nat} {c : Code} (h : W E c (inBlk id Q) s) : W E (.block id c) Q s := fun g a w hi =>
  wp_block (wp_mono (h g a w hi) fun e a' w' hq => by
    obtain ⟨g', s', h1, h2⟩ := hq
    cases e with
    | exit i =>
      simp only [Exit.inBlock]
      simp only [inBlk] at h1
      by_cases hid : i = id
      · subst hid
        rw [if_pos rfl]
        simp only [Nat.beq_refl, cond_true] at h1
        exact ⟨g', s', h1, h2⟩
      · rw [if_neg hid]
        have : Nat.beq i id = false := by
          cases hb : Nat.beq i id
          · rfl
          · exact absurd (Nat.eq_of_beq_eq_true hb) hid
        rw [this] at h1
        exact ⟨g', s', h1, h2⟩
    | _ => exact ⟨g', s', h1, h2⟩)

/-! ### Forgetting -/
inductive Le (os0 : List Nat) : AV → AV → Prop where
  | refl {x : AV} : Le os0 x x
  | eq {x y : AV} (h : x = y) : Le os0 x y
  | top {x : AV} : Le os0 x .top
  | nilOwn {n T e : Nat} (h : os0.any (Nat.beq n) = false) : Le os0 (.v (.slice none 0 0)) (.own n T e [])
  | nilSl {e : Nat} : Le os0 (.v (.slice none 0 0)) (.sl e [])
  | ownSl {n T e : Nat} {rows : List (List AV)} : Le os0 (.own n T e rows) (.sl e rows)
inductive Les (os0 : List Nat) : List AV → List AV → Prop where
  | nil : Les os0 [] []
  | cons {x y : AV} {xs ys : List AV} (h : Le os0 x y) (hs : Les os0 xs ys) : Les os0 (x :: xs) (y :: ys)
theorem Les.refl {os0 : List Nat} : ∀ (xs : List AV), Les os0 xs xs
  | [] => .nil
  | _ :: xs => .cons .refl (Les.refl xs)

def Pick (os0 : List Nat) (tm : List (Nat × AV)) : List (Nat × AV) → Prop
  | [] => True
  | (t, v) :: r => Le os0 (look tm t) v ∧ Pick os0 tm r
def PickB (os0 : List Nat) (bl : List (Nat × List AV)) : List (Nat × List AV) → Prop
  | [] => True
  | (n, cs) :: r => (∃ cs0, lookB bl n = some cs0 ∧ Les os0 cs0 cs) ∧ PickB os0 bl r

mutual
def refs (ks os : List Nat) : AV → Bool
  | .top => true
  | .v _ => true
  | .agg cs => refsL ks os cs
  | .tup cs => refsL ks os cs
  | .sl .. => true
  | .own n _ _ _ => os.any (Nat.beq n)
  | .ptr n _ => ks.any (Nat.beq n)
  | .eptr _ => true
  | .fn _ fs cs => refsL ks os fs && refsL ks os cs
  | .arr n _ _ _ => ks.any (Nat.beq n)
def refsL (ks os : List Nat) : List AV → Bool
  | [] => true
  | x :: xs => refs ks os x && refsL ks os xs
end
theorem any_beq {l : List Nat} {n : Nat} (h : l.any (Nat.beq n) = true) : n ∈ l := by
  obtain ⟨k, hk, hb⟩ := List.any_eq_true.1 h
  rw [Nat.eq_of_beq_eq_true hb]; exact hk

section
variable {g g' : Gh} {w : World} {ks os : List Nat}
mutual
theorem rep_refs (hI : g'.I = g.I) (hm : ∀ n b, n ∈ ks → g.m n = some b → g'.m n = some b) (ht : g'.mt = g.mt) (ho : ∀ n, n ∈ os → g.ow n → g'.ow n ∧ g'.om n = g.om n) : ∀ {x : AV} {y : Value}, refs ks os x = true → rep g w x y → rep g' w x y
  | .top, _, _, _ => by simp [rep]
  | .v x, y, _, h => by simpa [rep] using h
  | .agg cs, y, hr, h => by
    simp only [rep, refs] at h hr ⊢
    obtain ⟨a, e, h⟩ := h
    exact ⟨a, e, reps_refs hI hm ht ho hr h⟩
  | .tup cs, y, hr, h => by
    simp only [rep, refs] at h hr ⊢
    obtain ⟨a, e, h⟩ := h
    exact ⟨a, e, reps_refs hI hm ht ho hr h⟩
  | .sl e rows, y, _, h => by
    simp only [rep] at h ⊢
    rw [hI]; exact h
  | .own n T e rows, y, hr, h => by
    simp only [rep, refs] at h hr ⊢
    obtain ⟨h1, h2, xs, h3, h4, h5, h6⟩ := h
    obtain ⟨k1, k2⟩ := ho n (any_beq hr) h1
    exact ⟨k1, h2.trans k2.symm, xs, h3, by rw [hI]; exact h4, h5, by rw [k2, hI]; exact h6⟩
  | .ptr n off, y, hr, h => by
    simp only [rep, refs] at h hr ⊢
    obtain ⟨b, h1, h2⟩ := h
    exact ⟨b, hm n b (any_beq hr) h1, h2⟩
  | .eptr cs, y, _, h => by
    simp only [rep] at h ⊢
    rw [hI]; exact h
  | .fn f fs cs, y, hr, h => by
    simp only [rep, refs, Bool.and_eq_true] at h hr ⊢
    obtain ⟨a, b, h1, h2, h3⟩ := h
    exact ⟨a, b, h1, reps_refs hI hm ht ho hr.1 h2, reps_refs hI hm ht ho hr.2 h3⟩
  | .arr n T e len, y, hr, h => by
    simp only [rep, refs] at h hr ⊢
    obtain ⟨b, c, h1, h2, h3⟩ := h
    exact ⟨b, c, hm n b (any_beq hr) h1, by rw [ht]; exact h2, h3⟩
theorem reps_refs (hI : g'.I = g.I) (hm : ∀ n b, n ∈ ks → g.m n = some b → g'.m n = some b) (ht : g'.mt = g.mt) (ho : ∀ n, n ∈ os → g.ow n → g'.ow n ∧ g'.om n = g.om n) : ∀ {xs : List AV} {ys : List Value}, refsL ks os xs = true → reps g w xs ys → reps g' w xs ys
  | [], ys, _, h => by simpa [reps] using h
  | x :: xs, ys, hr, h => by
    simp only [reps, refsL, Bool.and_eq_true] at h hr ⊢
    obtain ⟨y, zs, e, h1, h2⟩ := h
    exact ⟨y, zs, e, rep_refs hI hm ht ho hr.1 h1, reps_refs hI hm ht ho hr.2 h2⟩
end
end

/-- From a state to one that tells less. -/
def Weak (E : En) (s s' : St) : Prop := ∀ g a w, Inv E g s a w → ∃ g', Inv E g' s' a w

def RefsB (ks os : List Nat) : List (Nat × List AV) → Prop
  | [] => True
  | (_, cs) :: r => refsL ks os cs = true ∧ RefsB ks os r
theorem refsB_mem {ks os : List Nat} : ∀ {bl : List (Nat × List AV)}, RefsB ks os bl → ∀ p ∈ bl, refsL ks os p.2 = true
  | [], _, p, hp => by simp at hp
  | (k, cs) :: r, h, p, hp => by
    simp only [RefsB] at h
    rcases List.mem_cons.1 hp with rfl | hp
    · exact h.1
    · exact refsB_mem h.2 p hp
theorem refsL_append {ks os : List Nat} : ∀ {xs ys : List AV}, refsL ks os xs = true → refsL ks os ys = true → refsL ks os (xs ++ ys) = true
  | [], ys, _, h => by simpa using h
  | x :: xs, ys, h, h' => by
    simp only [refsL, Bool.and_eq_true] at h
    simp only [List.cons_append, refsL, Bool.and_eq_true]
    exact ⟨h.1, refsL_append h.2 h'⟩
theorem refsL_flat {ks os : List Nat} : ∀ {rows : List (List AV)}, (∀ r ∈ rows, refsL ks os r = true) → refsL ks os rows.flatten = true
  | [], _ => by simp [refsL]
  | r :: rows, h => by
    rw [List.flatten_cons]
    exact refsL_append (h r (by simp)) (refsL_flat fun r' hr => h r' (by simp [hr]))
theorem refs_map {α : Type} {ks os : List Nat} {f : α → List AV} {l : List α} (hf : ∀ p, refsL ks os (f p) = true) : refsL ks os (l.map f).flatten = true := refsL_flat fun r hr => by
  obtain ⟨p, _, rfl⟩ := List.mem_map.1 hr
  exact hf p
theorem refs_fill {α : Type} {ks os : List Nat} {f : α → List AV} {l : List α} {m : Nat} {z : List AV} (hf : ∀ p, refsL ks os (f p) = true) (hz : refsL ks os z = true) : refsL ks os (l.map f ++ List.replicate m z).flatten = true := refsL_flat fun r hr => by
  rcases List.mem_append.1 hr with h | h
  · obtain ⟨p, _, rfl⟩ := List.mem_map.1 h; exact hf p
  · rw [List.eq_of_mem_replicate h]; exact hz
theorem look_mem : ∀ {tm : List (Nat × AV)} {t : Nat}, look tm t = .top ∨ look tm t ∈ tm.map (·.2)
  | [], _ => .inl rfl
  | (k, v) :: r, t => by
    simp only [look]
    cases Nat.beq k t
    · rcases look_mem (tm := r) (t := t) with h | h
      · exact .inl h
      · exact .inr (by simp only [cond_false, List.map_cons]; exact List.mem_cons_of_mem _ h)
    · exact .inr (by simp)
theorem refsL_mem {ks os : List Nat} : ∀ {xs : List AV} {x : AV}, refsL ks os xs = true → x ∈ xs → refs ks os x = true
  | [], x, _, h => by simp at h
  | y :: xs, x, h, hm => by
    simp only [refsL, Bool.and_eq_true] at h
    rcases List.mem_cons.1 hm with rfl | hm
    · exact h.1
    · exact refsL_mem h.2 hm
theorem pick_look {os0 : List Nat} {tm : List (Nat × AV)} : ∀ {l : List (Nat × AV)} {t : Nat}, Pick os0 tm l → look l t = .top ∨ Le os0 (look tm t) (look l t)
  | [], t, _ => .inl rfl
  | (k, v) :: r, t, h => by
    simp only [Pick] at h
    simp only [look]
    cases hb : Nat.beq k t
    · exact pick_look h.2
    · have := Nat.eq_of_beq_eq_true hb
      subst this
      exact .inr h.1
theorem rep_le {g g' : Gh} {w : World} {ks os os0 : List Nat} (hI : g'.I = g.I) (hm : ∀ n b, n ∈ ks → g.m n = some b → g'.m n = some b) (ht : g'.mt = g.mt) (ho : ∀ n, n ∈ os → g.ow n → g'.ow n ∧ g'.om n = g.om n)
    (hn : ∀ n, n ∈ os → n ∉ os0 → g'.ow n ∧ g'.om n = none) {x v : AV} {y : Value} (hl : Le os0 x v) (hr : refs ks os v = true) (h : rep g w x y) : rep g' w v y := by
  cases hl with
  | refl => exact rep_refs hI hm ht ho hr h
  | eq e => subst e; exact rep_refs hI hm ht ho hr h
  | top => simp [rep]
  | nilOwn hnew =>
    rename_i n T e
    simp only [rep] at h ⊢
    subst h
    simp only [refs] at hr
    obtain ⟨k1, k2⟩ := hn n (any_beq hr) (fun hm => by rw [List.any_eq_true.2 ⟨n, hm, by simp⟩] at hnew; cases hnew)
    exact ⟨k1, by rw [k2]; rfl, [], ⟨by simp, .inl ⟨rfl, rfl⟩⟩, by simp [dreps], by simp, fun b hb => by rw [k2] at hb; cases hb⟩
  | nilSl =>
    simp only [rep] at h
    subst h
    simp only [rep, drep]
    exact ⟨none, 0, rfl, .inl trivial, Nat.zero_le _⟩
  | ownSl =>
    simp only [rep] at h ⊢
    rw [hI]; exact drep_of_own h

theorem weak_mk {E : En} {s s' : St} (h1 : Pick s.ow s.tm s'.tm) (h2 : PickB s.ow s.bl s'.bl) (h3 : refsL (s'.bl.map (·.1)) s'.ow (s'.tm.map (·.2)) = true) (h3' : RefsB (s'.bl.map (·.1)) s'.ow s'.bl) (hpin : ∀ n b T, E.pin n b T → n ∈ s'.bl.map (·.1)) : Weak E s s' := by
  intro g a w hi
  let g' : Gh := { I := g.I, m := fun n => if n ∈ s'.bl.map (·.1) then g.m n else none, om := fun n => if n ∈ s.ow then g.om n else none, ow := fun n => n ∈ s'.ow ∧ (g.ow n ∨ n ∉ s.ow), mt := g.mt }
  have hmm : ∀ n b, g'.m n = some b → n ∈ s'.bl.map (·.1) ∧ g.m n = some b := fun n b h => by
    by_cases e : n ∈ s'.bl.map (·.1)
    · exact ⟨e, by simpa only [g', e, if_true] using h⟩
    · simp only [g', e, if_false] at h; cases h
  have hoo : ∀ n b, g'.ow n → g'.om n = some b → g.ow n ∧ g.om n = some b := fun n b h1 h2 => by
    by_cases e : n ∈ s.ow
    · simp only [g', e, if_true] at h2
      exact ⟨h1.2.resolve_right (fun h => h e), h2⟩
    · simp only [g', e, if_false] at h2; cases h2
  have km : ∀ n b, n ∈ s'.bl.map (·.1) → g.m n = some b → g'.m n = some b := fun n b h1 h2 => by simp only [g', h1, if_true]; exact h2
  have ko : ∀ n, n ∈ s'.ow → g.ow n → g'.ow n ∧ g'.om n = g.om n := fun n h1 h2 => ⟨⟨h1, .inl h2⟩, by simp only [g', hi.mem.own n h2, if_true]⟩
  have kn : ∀ n, n ∈ s'.ow → n ∉ s.ow → g'.ow n ∧ g'.om n = none := fun n h1 h2 => ⟨⟨h1, .inr h2⟩, by simp only [g', h2, if_false]⟩
  have bls : ∀ (l : List (Nat × List AV)), PickB s.ow s.bl l → ∀ n cs, (n, cs) ∈ l → ∃ cs0, lookB s.bl n = some cs0 ∧ Les s.ow cs0 cs := by
    intro l
    induction l with
    | nil => intro _ n cs h; simp at h
    | cons p l ih =>
      intro hp n cs h
      obtain ⟨k, c⟩ := p
      simp only [PickB] at hp
      rcases List.mem_cons.1 h with h | h
      · cases h
        exact hp.1
      · exact ih hp.2 n cs h
  have repsLe : ∀ {cs0 cs : List AV} {ys : List Value}, Les s.ow cs0 cs → refsL (s'.bl.map (·.1)) s'.ow cs = true → reps g w cs0 ys → reps g' w cs ys := by
    intro cs0 cs ys hl
    induction hl generalizing ys with
    | nil => intro _ h; simpa [reps] using h
    | cons hx hxs ih =>
      intro hr h
      simp only [refsL, Bool.and_eq_true] at hr
      simp only [reps] at h ⊢
      obtain ⟨y, zs, e, k1, k2⟩ := h
      exact ⟨y, zs, e, rep_le (g := g) (g' := g') rfl km rfl ko kn hx hr.1 k1, ih hr.2 k2⟩
  refine ⟨g', ⟨?_, fun t => ?_, hi.de, hi.sz⟩⟩
  · refine ⟨hi.mem.below, hi.mem.base, hi.mem.cell, fun n b h => hi.mem.mfr n b (hmm n b h).2, fun n b h1 h2 => hi.mem.ofr n b (hoo n b h1 h2).1 (hoo n b h1 h2).2, fun n n' b h1 h2 => hi.mem.minj n n' b (hmm n b h1).2 (hmm n' b h2).2,
      fun n n' b h1 h2 h3 h4 => hi.mem.oinj n n' b (hoo n b h1 h3).1 (hoo n' b h2 h4).1 (hoo n b h1 h3).2 (hoo n' b h2 h4).2, fun n n' b h1 h2 h3 => hi.mem.disj n n' b (hmm n b h1).2 (hoo n' b h2 h3).1 (hoo n' b h2 h3).2, fun n cs h => ?_, fun n b h => ?_, fun n h => h.1, hi.mem.inew, hi.mem.iold, fun n b T h => ⟨km n b (hpin n b T h) (hi.mem.pin n b T h).1, (hi.mem.pin n b T h).2⟩⟩
    · obtain ⟨cs0, e1, e2⟩ := bls _ h2 n cs h
      obtain ⟨b, arr, k1, k2, k3, k4⟩ := hi.mem.blk n cs0 (lookB_mem e1)
      exact ⟨b, arr, km n b (List.mem_map.2 ⟨_, h, rfl⟩) k1, k2, repsLe e2 (refsB_mem h3' _ h) k3, k4⟩
    · obtain ⟨h1, _⟩ := hmm n b h
      obtain ⟨p, hp, rfl⟩ := List.mem_map.1 h1
      exact ⟨p.2, hp⟩
  · rcases pick_look (t := t) h1 with h | h
    · rw [h]; simp [rep]
    · rcases look_mem (tm := s'.tm) (t := t) with h6 | h6
      · rw [h6]; simp [rep]
      · exact rep_le (g := g) (g' := g') rfl km rfl ko kn h (refsL_mem h3 h6) (hi.tm t)

theorem Weak.refl {E : En} (s : St) : Weak E s s := fun g _ _ hi => ⟨g, hi⟩
theorem W_weak {E : En} {c : Code} {Q : Exit → St → Prop} {s s' : St} (hw : Weak E s s') (h : W E c Q s') : W E c Q s := fun g a w hi => let ⟨g', hi'⟩ := hw g a w hi; h g' a w hi'

def loopQ (E : En) (R : Nat → St → Prop) (n : Nat) (Q : Exit → St → Prop) : Exit → St → Prop
  | .normal, s => ∃ n' s', n' < n ∧ R n' s' ∧ Weak E s s'
  | e, s => Q e s
theorem W_loop {E : En} {c : Code} {Q : Exit → St → Prop} {s : St} (R : Nat → St → Prop) (h0 : ∃ n s', R n s' ∧ Weak E s s') (round : ∀ n s, R n s → W E c (loopQ E R n Q) s) : W E (.loop c) Q s := by
  intro g a w hi
  obtain ⟨n, s', hR, hw⟩ := h0
  obtain ⟨g', hi'⟩ := hw g a w hi
  intro b k cs
  have key : ∀ n g s a w, R n s → Inv E g s a w → ∃ e a' w', post E Q e a' w' ∧ Arrives E.P (lone (b.at a (.code c :: .inLoop c :: k)) cs w) b k cs e a' w' := by
    intro n
    induction n using Nat.strongRecOn with
    | _ n ih =>
      intro g s a w hR hI
      obtain ⟨e, a₁, w₁, hq, harr⟩ := round n s hR g a w hI b (.inLoop c :: k) cs
      obtain ⟨g₁, s₁, hq, hi₁⟩ := hq
      cases e with
      | normal =>
        obtain ⟨n', s', hlt, hR', hw'⟩ := hq
        obtain ⟨g₂, hi₂⟩ := hw' g₁ a₁ w₁ hi₁
        obtain ⟨e₂, a₂, w₂, hq₂, harr₂⟩ := ih n' hlt g₂ s' a₁ w₁ hR' hi₂
        exact ⟨e₂, a₂, w₂, hq₂, .of_steps (Steps.trans harr (.one step_inLoop)) harr₂⟩
      | exit id => exact ⟨_, a₁, w₁, ⟨g₁, s₁, hq, hi₁⟩, .pass (x := .inLoop c) rfl (fun _ _ => .inl (by simp)) harr⟩
      | goto l => exact ⟨_, a₁, w₁, ⟨g₁, s₁, hq, hi₁⟩, .pass (x := .inLoop c) rfl (fun _ _ => .inl (by simp)) harr⟩
      | ret => exact ⟨_, a₁, w₁, ⟨g₁, s₁, hq, hi₁⟩, .pass (x := .inLoop c) rfl (fun _ _ => .inl (by simp)) harr⟩
      | panic ch => exact ⟨_, a₁, w₁, ⟨g₁, s₁, hq, hi₁⟩, .pass (x := .inLoop c) rfl (fun _ _ => .inl (by simp)) harr⟩
      | outgrown => exact ⟨_, a₁, w₁, ⟨g₁, s₁, hq, hi₁⟩, .pass (x := .inLoop c) rfl (fun _ _ => .inl (by simp)) harr⟩
  obtain ⟨e, a', w', hq, harr⟩ := key n g' s' a w hR hi'
  exact ⟨e, a', w', hq, .of_steps (.one step_loop) harr⟩

/-! ### Calls -/
/-- What a call leaves: old memory as it was; what its result needs is never written again. -/
structure Ret (I : Nat → Nat → Prop) (w : World) (g' : Gh) (w' : World) : Prop where
  below : BelowM w.heap.size (fun _ => False) w w'
  old : ∀ b o, I b o → g'.I b o
  new : ∀ b o, g'.I b o → I b o ∨ w.heap.size ≤ b
  cell : ∀ b o, g'.I b o → (w'.cell? ⟨b, o, none⟩).isSome = true
  own : ∀ n b, g'.ow n → g'.om n = some b → w.heap.size ≤ b ∧ b < w'.heap.size
  inj : ∀ n n' b, g'.ow n → g'.ow n' → g'.om n = some b → g'.om n' = some b → n = n'

/-- THE CONTRACT OF A FUNCTION: from arguments that read so, one of the results that R tells; nothing that was there has changed. -/
def CallOk (P : Program) (f : Nat) (args : List AV) (R : AV → Prop) : Prop :=
  ∀ (I : Nat → Nat → Prop) (w : World) (vals : Array Value), (∀ b o, I b o → (w.cell? ⟨b, o, none⟩).isSome = true) → dreps I w args vals.toList →
    Calls P f vals w fun e w' => ∃ y r g', e = .returned y ∧ R r ∧ rep g' w' r y ∧ Ret I w g' w'

/-- What a function hands back. -/
def resA (P : Program) (s : St) : List ResultVar → List AV → Prop
  | [], xs => xs = []
  | .tmp t :: r, xs => ∃ ys, xs = look s.tm t :: ys ∧ resA P s r ys
  | .cell a t :: r, xs => ∃ v ys ag sz n o cs, xs = v :: ys ∧ TyOk P t ag sz ∧ look s.tm a = .ptr n o ∧ lookB s.bl n = some cs ∧ aload ag sz (cs.drop o) = some v ∧ resA P s r ys
theorem resA_tmp {P : Program} {s : St} {t : Nat} {r : List ResultVar} {x : AV} {ys : List AV} (h : look s.tm t = x) (hr : resA P s r ys) : resA P s (.tmp t :: r) (x :: ys) := ⟨ys, by rw [h], hr⟩
theorem resA_cell {P : Program} {s : St} {a t : Nat} {r : List ResultVar} {v : AV} {ys : List AV} {ag : Bool} {sz n o : Nat} {cs : List AV} [ht : TyOk P t ag sz] (h : look s.tm a = .ptr n o) (hb : lookB s.bl n = some cs) (hl : aload ag sz (cs.drop o) = some v) (hr : resA P s r ys) : resA P s (.cell a t :: r) (v :: ys) :=
  ⟨v, ys, ag, sz, n, o, cs, rfl, ht, h, hb, hl, hr⟩
def oneA : List AV → AV
  | [x] => x
  | xs => .tup xs
def retQ (E : En) (rs : List ResultVar) (R : AV → Prop) : Exit → St → Prop
  | .normal, s => ∃ s', Weak E s s' ∧ ∃ xs, resA E.P s' rs xs ∧ R (oneA xs) ∧ refs [] s'.ow (oneA xs) = true
  | .ret, s => ∃ s', Weak E s s' ∧ ∃ xs, resA E.P s' rs xs ∧ R (oneA xs) ∧ refs [] s'.ow (oneA xs) = true
  | _, _ => False

theorem load_block {E : En} {g : Gh} {bl : List (Nat × List AV)} {ow : List Nat} {w : World} (hm : Mem E g bl ow w) {t n o sz : Nat} {ag : Bool} {cs : List AV} {v : AV} (ht : TyOk E.P t ag sz) (hb : (n, cs) ∈ bl) {y : Value} (hy : rep g w (.ptr n o) y) (h : aload ag sz (cs.drop o) = some v) :
    ∃ u, (do loadVar t (← asAddr y) : Sem Value).run E.P w = .ok u w ∧ rep g w v u := by
  simp only [rep] at hy
  obtain ⟨b, h1, rfl⟩ := hy
  obtain ⟨b', arr, e1, e2, e3, e4⟩ := hm.blk n cs hb
  have : b' = b := by rw [h1] at e1; exact (Option.some.inj e1).symm
  subst this
  have hd := reps_drop (k := o) e3
  have hc : ∀ j z, (arr.toList.drop o)[j]? = some z → w.cell? ⟨b', o + j, none⟩ = some z := fun j z hj => by
    rw [cell_of_heap e2]; simpa [List.getElem?_drop] using hj
  have hlen := reps_length hd
  cases ag
  · simp only [aload, cond_false, List.head?_eq_getElem?] at h
    obtain ⟨u, hu, hr⟩ := reps_get hd h
    have hc0 := hc 0 u hu
    rw [Nat.add_zero] at hc0
    exact ⟨u, by simp [asAddr, loadVar, ht.ag, run_load, hc0], hr⟩
  · simp only [aload, cond_true] at h
    cases hle : Nat.ble sz (cs.drop o).length
    · rw [hle] at h; cases h
    · rw [hle] at h
      simp only [cond_true, Option.some.injEq] at h
      subst h
      have hle' : sz ≤ (arr.toList.drop o).length := by rw [hlen]; exact Nat.le_of_ble_eq_true hle
      have := run_loadVar (P := E.P) (w := w) ht hc hle' (fun h => by cases h)
      refine ⟨.agg ((arr.toList.drop o).take sz).toArray, by simp [asAddr, this], ?_⟩
      simp only [rep]
      exact ⟨_, rfl, reps_take hd⟩
theorem run_results {E : En} {g : Gh} {s : St} {a : Act} {w : World} (hi : Inv E g s a w) {fn : Func} {xs : List AV} (h : resA E.P s fn.results.toList xs) : ∃ y, (results fn a.tmps).run E.P w = .ok y w ∧ rep g w (oneA xs) y := by
  have hrun : ∃ vs : Array Value, reps g w xs vs.toList ∧ ∀ F : ResultVar → Sem Value, (∀ t, F (.tmp t) = pure (a.tmps.getD t undef)) → (∀ c t, F (.cell c t) = do loadVar t (← asAddr (a.tmps.getD c undef))) → (fn.results.mapM F).run E.P w = .ok vs w := by
    have : ∀ (rs : List ResultVar) (xs : List AV), resA E.P s rs xs → ∃ vs, reps g w xs vs ∧ ∀ F : ResultVar → Sem Value, (∀ t, F (.tmp t) = pure (a.tmps.getD t undef)) → (∀ c t, F (.cell c t) = do loadVar t (← asAddr (a.tmps.getD c undef))) → (rs.mapM F).run E.P w = .ok vs w := by
      intro rs
      induction rs with
      | nil => intro xs h; simp only [resA] at h; subst h; exact ⟨[], by simp [reps], fun _ _ _ => rfl⟩
      | cons r rs ih =>
        intro xs h
        cases r with
        | tmp t =>
          simp only [resA] at h
          obtain ⟨ys, rfl, hr⟩ := h
          obtain ⟨vs, h2, h1⟩ := ih ys hr
          refine ⟨a.tmps.getD t undef :: vs, ?_, fun F hF hG => ?_⟩
          · simp only [reps]; exact ⟨_, _, rfl, hi.tm t, h2⟩
          · simp only [List.mapM_cons, hF, Sem.run_bind, Sem.run_pure, Result.andThen_ok, h1 F hF hG]
        | cell c t =>
          simp only [resA] at h
          obtain ⟨v, ys, ag, sz, n, o, cs, rfl, ht, k1, k2, k3, hr⟩ := h
          obtain ⟨vs, h2, h1⟩ := ih ys hr
          have hc := hi.tm c
          rw [k1] at hc
          obtain ⟨u, h3, h4⟩ := load_block hi.mem ht (lookB_mem k2) hc k3
          refine ⟨u :: vs, ?_, fun F hF hG => ?_⟩
          · simp only [reps]; exact ⟨_, _, rfl, h4, h2⟩
          · rw [List.mapM_cons, hG, Sem.run_bind, h3]
            simp only [Result.andThen_ok, Sem.run_bind, h1 F hF hG, Sem.run_pure]
    obtain ⟨vs, h1, h2⟩ := this _ _ h
    exact ⟨vs.toArray, by simpa using h1, fun F hF hG => by rw [Array.mapM_eq_mapM_toList, Sem.run_map, h2 F hF hG]; rfl⟩
  unfold results
  rw [Sem.run_bind]
  obtain ⟨vs, hr, h1⟩ := hrun
  rw [h1 _ (fun t => rfl) (fun c t => rfl)]
  simp only [Result.andThen_ok, Sem.run_pure]
  have hl := reps_length hr
  match xs, hr, hl with
  | [], hr, hl => exact ⟨.tuple vs, by simp at hl; simp [hl], by simp only [oneA, rep]; exact ⟨vs, rfl, hr⟩⟩
  | [x], hr, hl =>
    simp only [reps] at hr
    obtain ⟨y, zs, e, k1, rfl⟩ := hr
    have : vs = #[y] := by apply Array.ext'; simpa using e
    subst this
    exact ⟨y, by simp, by simpa only [oneA] using k1⟩
  | x :: x' :: xs, hr, hl =>
    have : vs.size ≠ 1 := by simp at hl; omega
    exact ⟨.tuple vs, by simp [this], by simp only [oneA, rep]; exact ⟨vs, rfl, hr⟩⟩

theorem look_zip : ∀ (xs : List AV) (k t : Nat), look ((xs.zipIdx k).map fun p => (p.2, p.1)) t = if k ≤ t then xs.getD (t - k) .top else .top
  | [], k, t => by simp [look]
  | x :: xs, k, t => by
    simp only [List.zipIdx_cons, List.map_cons, look, look_zip xs (k + 1) t]
    by_cases h : k = t
    · subst h; simp
    · have hb : Nat.beq k t = false := by
        cases hb : Nat.beq k t
        · rfl
        · exact absurd (Nat.eq_of_beq_eq_true hb) h
      rw [hb]
      simp only [cond_false]
      by_cases h2 : k ≤ t
      · rw [if_pos (by omega), if_pos h2, show t - k = (t - (k + 1)) + 1 by omega, List.getD_cons_succ]
      · rw [if_neg (by omega), if_neg h2]

theorem CallOk_of_W {P : Program} {f nt : Nat} {fn : Func} {rs : Array ResultVar} {c : Code} {args : List AV} {R : AV → Prop} (hf : P.funcs[f]? = some fn) (hnt : fn.ntmps = nt) (hrs : fn.results = rs) (hb : fn.body = some c) (hn : args.length ≤ nt)
    (h : ∀ (B : Nat) (w0 : World) (I0 : Nat → Nat → Prop), W ⟨P, B, w0, nt, fun _ => False, [], I0, fun _ _ _ => False⟩ c (retQ ⟨P, B, w0, nt, fun _ => False, [], I0, fun _ _ _ => False⟩ rs.toList R) ⟨(args.zipIdx 0).map fun p => (p.2, p.1), [], []⟩) : CallOk P f args R := by
  subst hnt; subst hrs
  intro I w vals hI hargs
  let E : En := ⟨P, w.heap.size, w, fn.ntmps, fun _ => False, [], I, fun _ _ _ => False⟩
  let g : Gh := ⟨I, fun _ => none, fun _ => none, fun _ => False, fun _ => 0⟩
  have hlen := dreps_length hargs
  have hargs' : reps g w args vals.toList := reps_of_dreps hargs
  refine calls_of_wp hf hb ?_
  refine wp_mono (h w.heap.size w I g _ w ⟨⟨BelowM.refl _ _ _, Nat.le_refl _, hI, fun n b h => by simp [g] at h, fun n b h => by simp [g] at h, fun n n' b h => by simp [g] at h, fun n n' b h => by simp [g] at h, fun n n' b h => by simp [g] at h,
    fun n cs h => by simp at h, fun n b h => by simp [g] at h, fun n h => by simp [g] at h, fun b o h => .inl h, fun b o h => h, fun n b T h => h.elim⟩, fun t => ?_, rfl, ?_⟩) fun e a' w' hq => ?_
  · simp only [look_zip, Nat.zero_le, if_true, Nat.sub_zero]
    rcases Nat.lt_or_ge t args.length with h1 | h1
    · obtain ⟨y, hy, hr⟩ := reps_get hargs' (List.getElem?_eq_getElem h1)
      have : t < vals.size := by simpa [← hlen] using h1
      have hy' : vals[t] = y := by simpa [this] using hy
      simp only [List.getD_eq_getElem?_getD, List.getElem?_eq_getElem h1, Option.getD_some]
      simp only [Array.getD_eq_getD_getElem?, Array.getElem?_append_left this, Array.getElem?_eq_getElem this, Option.getD_some, hy']
      exact hr
    · simp only [List.getD_eq_getElem?_getD, List.getElem?_eq_none h1, Option.getD_none, rep]
  · have : vals.size = args.length := by simpa using hlen
    simp; omega
  · obtain ⟨g', s', hq, hi⟩ := hq
    have fin : ∀ s1, Weak E s' s1 → ∀ xs, resA P s1 fn.results.toList xs → R (oneA xs) → refs [] s1.ow (oneA xs) = true → a'.defers = [] ∧ ∃ v, (results fn a'.tmps).run P w' = .ok v w' ∧ ∃ y r g', Ending.returned v = .returned y ∧ R r ∧ rep g' w' r y ∧ Ret I w g' w' := by
      intro s1 hw xs h1 h2 h3
      obtain ⟨g', hi⟩ := hw _ _ _ hi
      obtain ⟨y, k1, k2⟩ := run_results hi h1
      let g2 : Gh := { g' with m := fun _ => none }
      refine ⟨hi.de, y, k1, y, oneA xs, g2, rfl, h2, rep_refs (g := g') (g' := g2) rfl (fun n b hn => by simp at hn) rfl (fun n _ h => ⟨h, rfl⟩) h3 k2, ?_⟩
      exact ⟨⟨hi.mem.below.os, hi.mem.below.tape, hi.mem.below.output, hi.mem.below.size, hi.mem.below.block⟩, hi.mem.iold, hi.mem.inew, hi.mem.cell, hi.mem.ofr, hi.mem.oinj⟩
    cases e with
    | normal => obtain ⟨s1, hw, xs, h1, h2, h3⟩ := hq; exact fin s1 hw xs h1 h2 h3
    | ret => obtain ⟨s1, hw, xs, h1, h2, h3⟩ := hq; exact fin s1 hw xs h1 h2 h3
    | _ => exact hq.elim

/-- A function with a body, of whatever name but one. -/
class FnOk (P : Program) (f : Nat) : Prop where
  ok : ∃ fn, P.funcs[f]? = some fn ∧ (fn.name == "runtime.NumGoroutine") = false ∧ fn.body.isNone = false

/-- What is handed to a call: data. -/
inductive LeD : AV → AV → Prop where
  | v {x : Value} : LeD (.v x) (.v x)
  | top {x : AV} : LeD x .top
  | sl {e : Nat} {rows : List (List AV)} : LeD (.sl e rows) (.sl e rows)
  | own {n T e : Nat} {rows : List (List AV)} : LeD (.own n T e rows) (.sl e rows)
  | nil {e : Nat} : LeD (.v (.slice none 0 0)) (.sl e [])
inductive LeDs : List AV → List AV → Prop where
  | nil : LeDs [] []
  | cons {x y : AV} {xs ys : List AV} (h : LeD x y) (hs : LeDs xs ys) : LeDs (x :: xs) (y :: ys)
  | agg {cs ds xs ys : List AV} (h : LeDs cs ds) (hs : LeDs xs ys) : LeDs (.agg cs :: xs) (.agg ds :: ys)
theorem drep_leD {g : Gh} {w : World} {x y : AV} {v : Value} (h : LeD x y) (hr : rep g w x v) : drep g.I w y v := by
  cases h with
  | v => simpa [rep, drep] using hr
  | top => simp [drep]
  | sl => simpa only [rep] using hr
  | own => simp only [rep] at hr; exact drep_of_own hr
  | nil =>
    simp only [rep] at hr
    subst hr
    simp only [drep]
    exact ⟨none, 0, rfl, .inl trivial, Nat.zero_le _⟩
theorem dreps_leDs {g : Gh} {w : World} {xs ys : List AV} (h : LeDs xs ys) : ∀ {vs : List Value}, reps g w xs vs → dreps g.I w ys vs := by
  induction h with
  | nil => intro vs hr; simpa [reps, dreps] using hr
  | cons h hs ih =>
    intro vs hr
    simp only [reps] at hr
    obtain ⟨y, zs, e, h1, h2⟩ := hr
    simp only [dreps]
    exact ⟨y, zs, e, drep_leD h h1, ih h2⟩
  | agg h hs ih1 ih2 =>
    intro vs hr
    simp only [reps, rep] at hr
    obtain ⟨y, zs, e, ⟨a, e2, h1⟩, h2⟩ := hr
    simp only [dreps, drep]
    exact ⟨y, zs, e, ⟨a, e2, ih1 h1⟩, ih2 h2⟩

mutual
def ren (k : Nat) : AV → AV
  | .agg cs => .agg (renL k cs)
  | .tup cs => .tup (renL k cs)
  | .own n T e rows => .own (k + n) T e rows
  | x => x
def renL (k : Nat) : List AV → List AV
  | [] => []
  | x :: xs => ren k x :: renL k xs
end
/- No pointers, no functions in a result; its own slices' names. -/
mutual
def ownsIn (os : List Nat) : AV → Bool
  | .agg cs => ownsInL os cs
  | .tup cs => ownsInL os cs
  | .own n _ _ _ => os.any (Nat.beq n)
  | .ptr .. => false
  | .fn .. => false
  | .arr .. => false
  | _ => true
def ownsInL (os : List Nat) : List AV → Bool
  | [] => true
  | x :: xs => ownsIn os x && ownsInL os xs
end
mutual
theorem rep_ren {g' gc : Gh} {w : World} {k : Nat} {os : List Nat} (hI : gc.I = g'.I) (ho : ∀ n, n ∈ os → g'.ow n → gc.ow (k + n) ∧ gc.om (k + n) = g'.om n) : ∀ {x : AV} {y : Value}, ownsIn os x = true → rep g' w x y → rep gc w (ren k x) y
  | .top, _, _, _ => by simp [ren, rep]
  | .v x, y, _, h => by simpa [ren, rep] using h
  | .agg cs, y, hr, h => by
    simp only [rep, ownsIn, ren] at h hr ⊢
    obtain ⟨a, e, h⟩ := h
    exact ⟨a, e, reps_ren hI ho hr h⟩
  | .tup cs, y, hr, h => by
    simp only [rep, ownsIn, ren] at h hr ⊢
    obtain ⟨a, e, h⟩ := h
    exact ⟨a, e, reps_ren hI ho hr h⟩
  | .sl e rows, y, _, h => by
    simp only [rep, ren] at h ⊢
    rw [hI]; exact h
  | .own n T e rows, y, hr, h => by
    simp only [rep, ownsIn, ren] at h hr ⊢
    obtain ⟨h1, h2, xs, h3, h4, h5, h6⟩ := h
    obtain ⟨k1, k2⟩ := ho n (any_beq hr) h1
    exact ⟨k1, h2.trans k2.symm, xs, h3, by rw [hI]; exact h4, h5, by rw [k2, hI]; exact h6⟩
  | .ptr n off, y, hr, h => by simp [ownsIn] at hr
  | .eptr cs, y, _, h => by
    simp only [rep, ren] at h ⊢
    rw [hI]; exact h
  | .fn f fs cs, y, hr, h => by simp [ownsIn] at hr
  | .arr n T e len, y, hr, h => by simp [ownsIn] at hr
theorem reps_ren {g' gc : Gh} {w : World} {k : Nat} {os : List Nat} (hI : gc.I = g'.I) (ho : ∀ n, n ∈ os → g'.ow n → gc.ow (k + n) ∧ gc.om (k + n) = g'.om n) : ∀ {xs : List AV} {ys : List Value}, ownsInL os xs = true → reps g' w xs ys → reps gc w (renL k xs) ys
  | [], ys, _, h => by simpa [reps, renL] using h
  | x :: xs, ys, hr, h => by
    simp only [reps, ownsInL, renL, Bool.and_eq_true] at h hr ⊢
    obtain ⟨y, zs, e, h1, h2⟩ := h
    exact ⟨y, zs, e, rep_ren hI ho hr.1 h1, reps_ren hI ho hr.2 h2⟩
end

theorem Mem.called {E : En} {g g' : Gh} {bl : List (Nat × List AV)} {ow : List Nat} {w w' : World} (h : Mem E g bl ow w) (hr : Ret g.I w g' w') (k : Nat) (os : List Nat) (hf : ∀ n ∈ os, k + n ∉ ow) :
    ∃ gc, Goes g w gc w' ∧ Mem E gc bl (os.map (k + ·) ++ ow) w' ∧ gc.I = g'.I ∧ ∀ n, n ∈ os → g'.ow n → gc.ow (k + n) ∧ gc.om (k + n) = g'.om n := by
  let gc : Gh := { I := g'.I, m := g.m, om := fun j => if j ∈ ow then g.om j else g'.om (j - k), ow := fun j => g.ow j ∨ (j ∉ ow ∧ ∃ n ∈ os, j = k + n ∧ g'.ow n), mt := g.mt }
  have heap : ∀ b, b < w.heap.size → w'.heap[b]? = w.heap[b]? := fun b hb => hr.below.block b hb (fun h => h)
  have hIlt : ∀ b o, g.I b o → b < w.heap.size := fun b o hb => cell_lt (h.cell b o hb)
  have keeps : Keeps g.I w w' := fun b o hb => World.cell?_of_block (a := ⟨b, o, none⟩) (heap b (hIlt b o hb))
  have how : ∀ j, g.ow j → gc.ow j ∧ gc.om j = g.om j := fun j hj => ⟨.inl hj, by simp only [gc, h.own j hj, if_true]⟩
  have hI2 : ∀ b o, b < w.heap.size → g'.I b o → g.I b o := fun b o hb hI => (hr.new b o hI).resolve_right (by omega)
  have hoc : ∀ j b, gc.ow j → gc.om j = some b → (g.ow j ∧ g.om j = some b) ∨ (∃ n ∈ os, j = k + n ∧ g'.ow n ∧ g'.om n = some b) := by
    intro j b h1 h2
    rcases h1 with h1 | ⟨h1, n, hn, rfl, h3⟩
    · exact .inl ⟨h1, by rw [(how j h1).2] at h2; exact h2⟩
    · simp only [gc, h1, if_false, Nat.add_sub_cancel_left] at h2
      exact .inr ⟨n, hn, rfl, h3, h2⟩
  have goes : Goes g w gc w' := ⟨hr.old, keeps, fun _ _ h => h, fun _ _ _ => rfl, fun n T e rows y hy => ownRep_goes (g := g) (g' := gc) hr.old keeps how (fun n b h1 h2 => heap b (h.ofr n b h1 h2).2) (fun n b o h1 h2 h3 => hI2 b o (h.ofr n b h1 h2).2 h3) hy⟩
  refine ⟨gc, goes, ?_, rfl, fun n hn h1 => ⟨.inr ⟨hf n hn, n, hn, rfl, h1⟩, by simp only [gc, hf n hn, if_false, Nat.add_sub_cancel_left]⟩⟩
  have hsz := hr.below.size
  refine { below := ⟨hr.below.os.trans h.below.os, hr.below.tape.trans h.below.tape, hr.below.output.trans h.below.output, Nat.le_trans h.below.size hsz, fun j hj hM => (heap j (Nat.lt_of_lt_of_le hj h.base)).trans (h.below.block j hj hM)⟩,
           base := Nat.le_trans h.base hsz, cell := hr.cell, mfr := fun n b hn => ⟨(h.mfr n b hn).1, Nat.lt_of_lt_of_le (h.mfr n b hn).2 hsz⟩, ofr := ?_, minj := h.minj, oinj := ?_, disj := ?_, blk := ?_, key := h.key, own := ?_, inew := ?_, iold := fun b o hb => hr.old b o (h.iold b o hb), pin := h.pin }
  · intro j b h1 h2
    rcases hoc j b h1 h2 with ⟨h3, h4⟩ | ⟨n, _, _, h3, h4⟩
    · exact ⟨(h.ofr j b h3 h4).1, Nat.lt_of_lt_of_le (h.ofr j b h3 h4).2 hsz⟩
    · have := hr.own n b h3 h4
      exact ⟨Nat.le_trans h.base this.1, this.2⟩
  · intro j j' b h1 h1' h2 h2'
    rcases hoc j b h1 h2 with ⟨h3, h4⟩ | ⟨n, _, rfl, h3, h4⟩ <;> rcases hoc j' b h1' h2' with ⟨h5, h6⟩ | ⟨n', _, rfl, h5, h6⟩
    · exact h.oinj j j' b h3 h5 h4 h6
    · have h7 := (h.ofr j b h3 h4).2; have h8 := (hr.own n' b h5 h6).1; omega
    · have h7 := (h.ofr j' b h5 h6).2; have h8 := (hr.own n b h3 h4).1; omega
    · rw [hr.inj n n' b h3 h5 h4 h6]
  · intro j j' b h1 h2 h3
    rcases hoc j' b h2 h3 with ⟨h4, h5⟩ | ⟨n, _, rfl, h4, h5⟩
    · exact h.disj j j' b h1 h4 h5
    · have h7 := (h.mfr j b h1).2; have h8 := (hr.own n b h4 h5).1; omega
  · intro n cs hn
    obtain ⟨b, arr, h1, h2, h3, h4⟩ := h.blk n cs hn
    have hb := (h.mfr n b h1).2
    exact ⟨b, arr, h1, (heap b hb).trans h2, reps_goes goes h3, fun o ho => h4 o (hI2 b o hb ho)⟩
  · intro j hj
    rcases hj with hj | ⟨_, n, hn, rfl, _⟩
    · exact List.mem_append_right _ (h.own j hj)
    · exact List.mem_append_left _ (List.mem_map.2 ⟨n, hn, rfl⟩)
  · intro b o hb
    rcases hr.new b o hb with h1 | h1
    · exact h.inew b o h1
    · exact .inr (Nat.le_trans h.base h1)

section
variable {E : En} {bl : List (Nat × List AV)} {tm : List (Nat × AV)} {d : Option Tmp} {ty : TypeId} {pos : String} {af : Array Edge} {gd : Option (Nat × Bool)}
theorem QV_call {x : Operand} {xs : Array Operand} {ts : Array TypeId} {f : Nat} {ys : List AV} {r : AV} (k : Nat) (os : List Nat) [hf : FnOk E.P f] (h : CallOk E.P f ys (fun r' => r' = r)) (hx : ev tm x = .v (.func (.func f) #[] #[])) (ha : LeDs (xs.toList.map (ev tm)) ys) (ho : ownsIn os r = true) :
    QV E bl tm ⟨d, .call ⟨.value x, xs, ts⟩, ty, pos, af, gd⟩ (ren k r) [] (os.map (k + ·)) := by
  intro g w ρ bl' ow' hm hbl _ hno hop
  have h1 := hop x (by simp [Op.operands, Call.operands])
  have h2 : reps g w (xs.toList.map (ev tm)) (xs.toList.map ρ) := reps_map _ fun y hy => hop y (by simp [Op.operands, Call.operands] at hy ⊢; exact .inr hy)
  rw [hx] at h1
  simp only [rep] at h1
  obtain ⟨fn, f1, f2, f3⟩ := hf.ok
  have f2' : fn.name ≠ "runtime.NumGoroutine" := by simpa using f2
  have f3' : fn.body ≠ none := fun e => by rw [e] at f3; simp at f3
  have hrun : (execOp ρ ⟨d, .call ⟨.value x, xs, ts⟩, ty, pos, af, gd⟩).run E.P w = .ok (.enter f (xs.map ρ)) w := by
    simp [execOp, resolve, Deferred.ofValue, h1, invoke, callFunc, f1, f2', f3']
  rw [hrun]
  have hc := h g.I w (xs.map ρ) hm.cell (by rw [Array.toList_map]; exact dreps_leDs ha h2)
  refine hc.mono fun e w' he => ?_
  obtain ⟨y, r', g', rfl, rfl, h3, h4⟩ := he
  obtain ⟨gc, h5, h6, h7, h8⟩ := hm.called h4 k os (fun n hn => hno _ (List.mem_map.2 ⟨n, hn, rfl⟩))
  exact ⟨y, rfl, gc, h5, by simpa using h6, rep_ren h7 h8 ho h3⟩
end
end Go.Eng
