/- A scope in which the run jumps back to one label. No program in sight. -/
import Derived.Test.YtkadjimnamcjbaaET
import Derived.ScopeJumps
namespace Go.Eng
open Go

def scopeQ (E : En) (l : Nat) (R : Nat → St → Prop) (Q : Exit → St → Prop) : Exit → St → Prop
  | .goto l', s => l' = l ∧ ∃ n s', R n s' ∧ Weak E s s'
  | e, s => Q e s
def passQ (E : En) (l : Nat) (R : Nat → St → Prop) (n : Nat) (Q : Exit → St → Prop) : Exit → St → Prop
  | .goto l', s => l' = l ∧ ∃ n' s', n' < n ∧ R n' s' ∧ Weak E s s'
  | e, s => Q e s
theorem W_goto {E : En} {Q : Exit → St → Prop} {s : St} {l : Nat} (h : Q (.goto l) s) : W E (.goto l) Q s := fun g _ _ hi => wp_goto ⟨g, s, h, hi⟩
theorem W_mono {E : En} {c : Code} {Q Q' : Exit → St → Prop} {s : St} (hQ : ∀ e s, Q e s → Q' e s) (h : W E c Q s) : W E c Q' s := fun g a w hi =>
  wp_mono (h g a w hi) fun _ _ _ hq => let ⟨g', s', h1, h2⟩ := hq; ⟨g', s', hQ _ _ h1, h2⟩
theorem W_scope {E : En} {c body : Code} {Q : Exit → St → Prop} {s : St} (l : Nat) (R : Nat → St → Prop) (hf : findLabel c l = some (.seq .skip body)) (pass : ∀ n s, R n s → W E body (passQ E l R n Q) s)
    (first : (∀ s, (∃ n s', R n s' ∧ Weak E s s') → W E body (scopeQ E l R Q) s) → W E c (scopeQ E l R Q) s) : W E (.scope c) Q s := by
  have hfirst : ∀ s, (∃ n s', R n s' ∧ Weak E s s') → W E body (scopeQ E l R Q) s := fun s ⟨n, s', hR, hw⟩ g a w hi => by
    obtain ⟨g', hi'⟩ := hw g a w hi
    refine wp_mono (pass n s' hR g' a w hi') fun e a' w' hq => ?_
    obtain ⟨g2, s2, h1, h2⟩ := hq
    refine ⟨g2, s2, ?_, h2⟩
    cases e with
    | goto l' => obtain ⟨k1, n', s3, _, k2, k3⟩ := h1; exact ⟨k1, n', s3, k2, k3⟩
    | _ => exact h1
  intro g a w hi b k cs
  have hg : gotoIn l (.inScope c :: k) = some (.code (.seq .skip body) :: .inScope c :: k) := by simp [gotoIn, hf]
  have key : ∀ n g s a w, R n s → Inv E g s a w → ∃ e a' w', post E Q e a' w' ∧ Arrives E.P (lone (b.at a (.code (.seq .skip body) :: .inScope c :: k)) cs w) b k cs e a' w' := by
    intro n
    induction n using Nat.strongRecOn with
    | _ n ih =>
      intro g s a w hR hI
      obtain ⟨e, a₁, w₁, hq, harr⟩ := (W_seq (W_skip (pass n s hR)) : W E (.seq .skip body) _ s) g a w hI b (.inScope c :: k) cs
      obtain ⟨g₁, s₁, hq, hi₁⟩ := hq
      cases e with
      | normal => exact ⟨.normal, a₁, w₁, ⟨g₁, s₁, hq, hi₁⟩, Steps.trans harr (.one step_inScope)⟩
      | exit id => exact ⟨.exit id, a₁, w₁, ⟨g₁, s₁, hq, hi₁⟩, fun k' hk => harr k' (by simp [exitTo, hk])⟩
      | goto l' =>
        obtain ⟨rfl, n', s', hlt, hR', hw'⟩ := hq
        obtain ⟨g₂, hi₂⟩ := hw' g₁ a₁ w₁ hi₁
        obtain ⟨e₂, a₂, w₂, hq₂, harr₂⟩ := ih n' hlt g₂ s' a₁ w₁ hR' hi₂
        exact ⟨e₂, a₂, w₂, hq₂, .of_steps (harr _ hg) harr₂⟩
      | ret => exact ⟨_, a₁, w₁, ⟨g₁, s₁, hq, hi₁⟩, harr⟩
      | panic ch => exact ⟨_, a₁, w₁, ⟨g₁, s₁, hq, hi₁⟩, harr⟩
      | outgrown => exact ⟨_, a₁, w₁, ⟨g₁, s₁, hq, hi₁⟩, harr⟩
  obtain ⟨e, a₁, w₁, hq, harr⟩ := first hfirst g a w hi b (.inScope c :: k) cs
  obtain ⟨g₁, s₁, hq, hi₁⟩ := hq
  cases e with
  | normal => exact ⟨.normal, a₁, w₁, ⟨g₁, s₁, hq, hi₁⟩, .head step_scope (Steps.trans harr (.one step_inScope))⟩
  | exit id => exact ⟨.exit id, a₁, w₁, ⟨g₁, s₁, hq, hi₁⟩, fun k' hk => .head step_scope (harr k' (by simp [exitTo, hk]))⟩
  | goto l' =>
    obtain ⟨rfl, n, s', hR', hw'⟩ := hq
    obtain ⟨g₂, hi₂⟩ := hw' g₁ a₁ w₁ hi₁
    obtain ⟨e₂, a₂, w₂, hq₂, harr₂⟩ := key n g₂ s' a₁ w₁ hR' hi₂
    exact ⟨e₂, a₂, w₂, hq₂, .of_steps (.head step_scope (harr _ hg)) harr₂⟩
  | ret => exact ⟨_, a₁, w₁, ⟨g₁, s₁, hq, hi₁⟩, .of_steps (.one step_scope) harr⟩
  | panic ch => exact ⟨_, a₁, w₁, ⟨g₁, s₁, hq, hi₁⟩, .of_steps (.one step_scope) harr⟩
  | outgrown => exact ⟨_, a₁, w₁, ⟨g₁, s₁, hq, hi₁⟩, .of_steps (.one step_scope) harr⟩
end Go.Eng
