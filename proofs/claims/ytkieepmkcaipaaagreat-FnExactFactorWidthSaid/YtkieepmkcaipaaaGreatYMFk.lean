/- Rows that span the space: a point at which three are just met and all are fulfilled, or four rows that contradict each other. Plain; no program in sight. -/
import Derived.Test.YtkieepmkcaipaaaGreatYMDe
namespace Go.Proofs.YtkieepmkcaipaaaGreat
open Go.Eng

def sum4 (p q r s : Rw) : Int := detR q r s * p.d - detR p r s * q.d + detR p q s * r.d - detR p q r * s.d
theorem sum4_at (p q r s : Rw) : s.a * detH p q r + s.b * detV p q r + s.c * detM p q r - s.d * detR p q r = sum4 p q r s := by
  unfold sum4 detR detH detV detM det3; grind
theorem can_a (p q r s : Rw) : detR q r s * p.a - detR p r s * q.a + detR p q s * r.a - detR p q r * s.a = 0 := by
  unfold detR det3; grind
theorem can_b (p q r s : Rw) : detR q r s * p.b - detR p r s * q.b + detR p q s * r.b - detR p q r * s.b = 0 := by
  unfold detR det3; grind
theorem can_c (p q r s : Rw) : detR q r s * p.c - detR p r s * q.c + detR p q s * r.c - detR p q r * s.c = 0 := by
  unfold detR det3; grind
theorem detR_12 (p q r : Rw) : detR q p r = -detR p q r := by unfold detR det3; grind
theorem detR_23 (p q r : Rw) : detR p r q = -detR p q r := by unfold detR det3; grind
theorem detR_same (p q : Rw) : detR p p q = 0 ∧ detR p q p = 0 ∧ detR p q q = 0 := by refine ⟨?_, ?_, ?_⟩ <;> (unfold detR det3; grind)
theorem sum4_12 (p q r s : Rw) : sum4 q p r s = -sum4 p q r s := by unfold sum4; rw [detR_12 p q r, detR_12 p q s]; grind
theorem sum4_23 (p q r s : Rw) : sum4 p r q s = -sum4 p q r s := by unfold sum4; rw [detR_12 q r s, detR_23 p q r]; grind
theorem sum4_34 (p q r s : Rw) : sum4 p q s r = -sum4 p q r s := by unfold sum4; rw [detR_23 q r s, detR_23 p r s]; grind
theorem sum4_same (p q r : Rw) : sum4 p q r p = 0 ∧ sum4 p q r q = 0 ∧ sum4 p q r r = 0 := by
  refine ⟨?_, ?_, ?_⟩ <;> (unfold sum4 detR det3; grind)
theorem sum4_mix (p q r t u s : Rw) : detR t u s * sum4 p q r p - detR p u s * sum4 p q r t + detR p t s * sum4 p q r u - detR p t u * sum4 p q r s = -(detR p q r * sum4 p t u s) := by
  unfold sum4 detR det3; grind
theorem sum4_mix4 (p q r k t u s : Rw) : detR t u s * sum4 p q r k - detR k u s * sum4 p q r t + detR k t s * sum4 p q r u - detR k t u * sum4 p q r s = -(detR p q r * sum4 k t u s) := by
  unfold sum4 detR det3; grind
theorem sum4_three (p q r s t : Rw) : detR p q r * sum4 p q s t - detR p q s * sum4 p q r t + detR p q t * sum4 p q r s = 0 := by
  unfold sum4 detR det3; grind
def Sat (p q r s : Rw) : Prop := detR p q r * sum4 p q r s ≤ 0
def Con (p q r s : Rw) : Prop :=
  (0 ≤ detR q r s ∧ detR p r s ≤ 0 ∧ 0 ≤ detR p q s ∧ detR p q r ≤ 0 ∧ sum4 p q r s < 0) ∨
  (detR q r s ≤ 0 ∧ 0 ≤ detR p r s ∧ detR p q s ≤ 0 ∧ 0 ≤ detR p q r ∧ 0 < sum4 p q r s)
def Con1 (p q r s : Rw) : Prop :=
  (detR p r s ≤ 0 ∧ 0 ≤ detR p q s ∧ detR p q r ≤ 0 ∧ sum4 p q r s < 0) ∨
  (0 ≤ detR p r s ∧ detR p q s ≤ 0 ∧ 0 ≤ detR p q r ∧ 0 < sum4 p q r s)
def Con2 (p q r s : Rw) : Prop :=
  (0 ≤ detR p q s ∧ detR p q r ≤ 0 ∧ sum4 p q r s < 0) ∨ (detR p q s ≤ 0 ∧ 0 ≤ detR p q r ∧ 0 < sum4 p q r s)
theorem sat_same (p q r : Rw) : Sat p q r p ∧ Sat p q r q ∧ Sat p q r r := by
  obtain ⟨h1, h2, h3⟩ := sum4_same p q r
  refine ⟨?_, ?_, ?_⟩ <;> (unfold Sat; simp [h1, h2, h3])
theorem sat_12 {p q r s : Rw} : Sat q p r s ↔ Sat p q r s := by
  unfold Sat; rw [detR_12 p q r, sum4_12 p q r s]; simp [Int.neg_mul_neg]
theorem con2_12 {p q r s : Rw} : Con2 q p r s ↔ Con2 p q r s := by
  unfold Con2; rw [detR_12 p q r, detR_12 p q s, sum4_12 p q r s]; omega
theorem not_sat {p q r s : Rw} (h : ¬ Sat p q r s) : (0 < detR p q r ∧ 0 < sum4 p q r s) ∨ (detR p q r < 0 ∧ sum4 p q r s < 0) := by
  unfold Sat at h
  generalize detR p q r = x at *
  generalize sum4 p q r s = y at *
  rcases Int.lt_trichotomy x 0 with hx | hx | hx
  · refine .inr ⟨hx, ?_⟩
    rcases Int.lt_trichotomy y 0 with hy | hy | hy
    · exact hy
    · subst hy; simp at h
    · exact absurd (Int.le_of_lt (Int.mul_neg_of_neg_of_pos hx hy)) h
  · subst hx; simp at h
  · refine .inl ⟨hx, ?_⟩
    rcases Int.lt_trichotomy y 0 with hy | hy | hy
    · exact absurd (Int.le_of_lt (Int.mul_neg_of_pos_of_neg hx hy)) h
    · subst hy; simp at h
    · exact hy
theorem sat_pos {p q r s : Rw} (h : Sat p q r s) (hd : 0 < detR p q r) : sum4 p q r s ≤ 0 := by
  unfold Sat at h
  exact Int.not_lt.1 fun hc => absurd (Int.mul_pos hd hc) (by omega)
theorem sat_neg {p q r s : Rw} (h : Sat p q r s) (hd : detR p q r < 0) : 0 ≤ sum4 p q r s := by
  unfold Sat at h
  exact Int.not_lt.1 fun hc => absurd (Int.mul_pos_of_neg_of_neg hd hc) (by omega)
theorem mul_np {a b : Int} (h1 : 0 ≤ a) (h2 : b ≤ 0) : a * b ≤ 0 := Int.mul_nonpos_of_nonneg_of_nonpos h1 h2
theorem mul_pn {a b : Int} (h1 : a ≤ 0) (h2 : 0 ≤ b) : a * b ≤ 0 := Int.mul_nonpos_of_nonpos_of_nonneg h1 h2
theorem mul_nn {a b : Int} (h1 : a ≤ 0) (h2 : b ≤ 0) : 0 ≤ a * b := Int.mul_nonneg_of_nonpos_of_nonpos h1 h2
theorem mul_pp {a b : Int} (h1 : 0 ≤ a) (h2 : 0 ≤ b) : 0 ≤ a * b := Int.mul_nonneg h1 h2

theorem line_step {p q u t s : Rw} (hu : 0 < detR p q u) (ht : 0 < detR p q t) (hs : 0 < detR p q s) (h1 : sum4 p q t u ≤ 0) (h2 : sum4 p q u s ≤ 0) : sum4 p q t s ≤ 0 := by
  have e := sum4_three p q t u s
  have a1 := mul_np (Int.le_of_lt ht) h2
  have a2 := mul_np (Int.le_of_lt hs) h1
  refine Int.not_lt.1 fun hc => ?_
  have a3 := Int.mul_pos hu hc
  omega
theorem line_best {p q : Rw} : ∀ {l : List Rw}, (∃ u ∈ l, 0 < detR p q u) → ∃ u ∈ l, 0 < detR p q u ∧ ∀ s ∈ l, 0 < detR p q s → sum4 p q u s ≤ 0
  | [], h => by obtain ⟨u, h, _⟩ := h; cases h
  | t :: l, h => by
    by_cases hl : ∃ u ∈ l, 0 < detR p q u
    · obtain ⟨u, hu, hp, hb⟩ := line_best hl
      by_cases ht : 0 < detR p q t ∧ ¬ sum4 p q u t ≤ 0
      · refine ⟨t, List.mem_cons_self, ht.1, fun s hs hps => ?_⟩
        rcases List.mem_cons.1 hs with rfl | hs
        · simp [(sum4_same p q s).2.2]
        · exact line_step hp ht.1 hps (by rw [sum4_34]; omega) (hb s hs hps)
      · refine ⟨u, List.mem_cons_of_mem _ hu, hp, fun s hs hps => ?_⟩
        rcases List.mem_cons.1 hs with rfl | hs
        · exact Int.not_lt.1 fun hc => ht ⟨hps, by omega⟩
        · exact hb s hs hps
    · refine ⟨t, List.mem_cons_self, ?_, fun s hs hps => ?_⟩
      · obtain ⟨u, hu, hp⟩ := h
        rcases List.mem_cons.1 hu with rfl | hu
        · exact hp
        · exact absurd ⟨u, hu, hp⟩ hl
      · rcases List.mem_cons.1 hs with rfl | hs
        · simp [(sum4_same p q s).2.2]
        · exact absurd ⟨s, hs, hps⟩ hl
theorem line_pos {p q : Rw} {l : List Rw} (h : ∃ u ∈ l, 0 < detR p q u) : ∃ u ∈ l, detR p q u ≠ 0 ∧ ((∀ s ∈ l, Sat p q u s) ∨ ∃ s ∈ l, Con2 p q u s) := by
  obtain ⟨u, hu, hp, hb⟩ := line_best h
  refine ⟨u, hu, by omega, ?_⟩
  by_cases hs : ∃ s ∈ l, ¬ Sat p q u s
  · obtain ⟨s, hs, hn⟩ := hs
    refine .inr ⟨s, hs, .inr ?_⟩
    rcases not_sat hn with ⟨h1, h2⟩ | ⟨h1, h2⟩
    · exact ⟨Int.not_lt.1 fun hc => absurd (hb s hs hc) (by omega), by omega, h2⟩
    · omega
  · exact .inl fun s hm => Classical.not_not.1 fun hn => hs ⟨s, hm, hn⟩
theorem line_any {p q : Rw} {l : List Rw} (h : ∃ u ∈ l, detR p q u ≠ 0) : ∃ u ∈ l, detR p q u ≠ 0 ∧ ((∀ s ∈ l, Sat p q u s) ∨ ∃ s ∈ l, Con2 p q u s) := by
  obtain ⟨u, hu, hn⟩ := h
  rcases Int.lt_or_gt_of_ne hn with h1 | h1
  · obtain ⟨v, hv, h2, h3⟩ := line_pos (p := q) (q := p) (l := l) ⟨u, hu, by rw [detR_12 p q]; omega⟩
    refine ⟨v, hv, by rw [detR_12 p q] at h2; omega, ?_⟩
    rcases h3 with h3 | ⟨s, hs, h3⟩
    · exact .inl fun s hs => sat_12.1 (h3 s hs)
    · exact .inr ⟨s, hs, con2_12.1 h3⟩
  · exact line_pos ⟨u, hu, h1⟩

theorem plane_sign {p q r t u s : Rw} (hv : ¬ Sat p q r t) (hu : Sat p q r u) (hs : Sat p q r s) (h : Con2 p t u s) : Con1 p t u s := by
  have e := sum4_mix p q r t u s
  rw [(sum4_same p q r).1] at e
  simp only [Int.mul_zero] at e
  rcases not_sat hv with ⟨d, g⟩ | ⟨d, g⟩
  · have gu := sat_pos hu d
    have gs := sat_pos hs d
    rcases h with ⟨h1, h2, h3⟩ | ⟨h1, h2, h3⟩
    · refine .inl ⟨Int.not_lt.1 fun hc => ?_, h1, h2, h3⟩
      have a1 := Int.mul_pos hc g
      have a2 := mul_np h1 gu
      have a3 := mul_nn h2 gs
      have a4 := Int.mul_neg_of_pos_of_neg d h3
      omega
    · refine .inr ⟨Int.not_lt.1 fun hc => ?_, h1, h2, h3⟩
      have a1 := Int.mul_neg_of_neg_of_pos hc g
      have a2 := mul_nn h1 gu
      have a3 := mul_np h2 gs
      have a4 := Int.mul_pos d h3
      omega
  · have gu := sat_neg hu d
    have gs := sat_neg hs d
    rcases h with ⟨h1, h2, h3⟩ | ⟨h1, h2, h3⟩
    · refine .inl ⟨Int.not_lt.1 fun hc => ?_, h1, h2, h3⟩
      have a1 := Int.mul_neg_of_pos_of_neg hc g
      have a2 := mul_pp h1 gu
      have a3 := mul_pn h2 gs
      have a4 := Int.mul_pos_of_neg_of_neg d h3
      omega
    · refine .inr ⟨Int.not_lt.1 fun hc => ?_, h1, h2, h3⟩
      have a1 := Int.mul_pos_of_neg_of_neg hc g
      have a2 := mul_pn h1 gu
      have a3 := mul_pp h2 gs
      have a4 := Int.mul_neg_of_neg_of_pos d h3
      omega
def At1 (p : Rw) (l : List Rw) : Prop := (∃ q ∈ l, ∃ r ∈ l, detR p q r ≠ 0 ∧ ∀ s ∈ l, Sat p q r s) ∨ ∃ q ∈ l, ∃ r ∈ l, ∃ s ∈ l, Con1 p q r s
theorem con1_par {p q r t : Rw} (hv : ¬ Sat p q r t) (h1 : detR p t q = 0) (h2 : detR p t r = 0) : Con1 p q r t := by
  have e1 : detR p q t = 0 := by rw [detR_23, h1]; rfl
  have e2 : detR p r t = 0 := by rw [detR_23, h2]; rfl
  rcases not_sat hv with ⟨d, g⟩ | ⟨d, g⟩
  · exact .inr ⟨by omega, by omega, by omega, g⟩
  · exact .inl ⟨by omega, by omega, by omega, g⟩
theorem plane_base {p q r : Rw} (h : detR p q r ≠ 0) : At1 p [q, r] := by
  refine .inl ⟨q, by simp, r, by simp, h, fun s hs => ?_⟩
  obtain ⟨_, h2, h3⟩ := sat_same p q r
  simp only [List.mem_cons, List.not_mem_nil, or_false] at hs
  rcases hs with rfl | rfl
  · exact h2
  · exact h3
theorem plane_step {p t : Rw} {l : List Rw} (h : At1 p l) : At1 p (t :: l) := by
  have mm : ∀ {x : Rw}, x ∈ l → x ∈ t :: l := fun h => List.mem_cons_of_mem _ h
  have mt : t ∈ t :: l := List.mem_cons_self
  rcases h with ⟨q, hq, r, hr, hd, hall⟩ | ⟨q, hq, r, hr, s, hs, hc⟩
  · by_cases hv : Sat p q r t
    · refine .inl ⟨q, mm hq, r, mm hr, hd, fun s hs => ?_⟩
      rcases List.mem_cons.1 hs with rfl | hs
      · exact hv
      · exact hall s hs
    · by_cases hp : ∃ u ∈ l, detR p t u ≠ 0
      · obtain ⟨u, hu, hn, h | ⟨s, hs, hc⟩⟩ := line_any hp
        · refine .inl ⟨t, mt, u, mm hu, hn, fun s hs => ?_⟩
          rcases List.mem_cons.1 hs with rfl | hs
          · exact (sat_same p s u).2.1
          · exact h s hs
        · exact .inr ⟨t, mt, u, mm hu, s, mm hs, plane_sign hv (hall u hu) (hall s hs) hc⟩
      · have h1 : detR p t q = 0 := Classical.not_not.1 fun hn => hp ⟨q, hq, hn⟩
        have h2 : detR p t r = 0 := Classical.not_not.1 fun hn => hp ⟨r, hr, hn⟩
        exact .inr ⟨q, mm hq, r, mm hr, t, mt, con1_par hv h1 h2⟩
  · exact .inr ⟨q, mm hq, r, mm hr, s, mm hs, hc⟩
theorem plane_app {p : Rw} {b : List Rw} (h : At1 p b) : ∀ l, At1 p (l ++ b)
  | [] => h
  | _ :: l => plane_step (plane_app h l)
theorem plane_any {p : Rw} {l : List Rw} (h : ∃ q ∈ l, ∃ r ∈ l, detR p q r ≠ 0) : At1 p l := by
  obtain ⟨q, hq, r, hr, hd⟩ := h
  have m : ∀ {x}, x ∈ l ++ [q, r] → x ∈ l := fun {x} hx => by
    rcases List.mem_append.1 hx with hx | hx
    · exact hx
    · simp only [List.mem_cons, List.not_mem_nil, or_false] at hx
      rcases hx with rfl | rfl
      · exact hq
      · exact hr
  have m' : ∀ {x}, x ∈ l → x ∈ l ++ [q, r] := fun hx => List.mem_append.2 (.inl hx)
  rcases plane_app (plane_base hd) l with ⟨a, ha, b, hb, h1, h2⟩ | ⟨a, ha, b, hb, c, hc, h1⟩
  · exact .inl ⟨a, m ha, b, m hb, h1, fun s hs => h2 s (m' hs)⟩
  · exact .inr ⟨a, m ha, b, m hb, c, m hc, h1⟩

theorem space_sign {p q r k t u s : Rw} (hv : ¬ Sat p q r k) (ht : Sat p q r t) (hu : Sat p q r u) (hs : Sat p q r s) (h : Con1 k t u s) : Con k t u s := by
  have e := sum4_mix4 p q r k t u s
  rcases not_sat hv with ⟨d, g⟩ | ⟨d, g⟩
  · have gt := sat_pos ht d
    have gu := sat_pos hu d
    have gs := sat_pos hs d
    rcases h with ⟨h0, h1, h2, h3⟩ | ⟨h0, h1, h2, h3⟩
    · refine .inl ⟨Int.not_lt.1 fun hc => ?_, h0, h1, h2, h3⟩
      have a1 := Int.mul_neg_of_neg_of_pos hc g
      have a0 := mul_nn h0 gt
      have a2 := mul_np h1 gu
      have a3 := mul_nn h2 gs
      have a4 := Int.mul_neg_of_pos_of_neg d h3
      omega
    · refine .inr ⟨Int.not_lt.1 fun hc => ?_, h0, h1, h2, h3⟩
      have a1 := Int.mul_pos hc g
      have a0 := mul_np h0 gt
      have a2 := mul_nn h1 gu
      have a3 := mul_np h2 gs
      have a4 := Int.mul_pos d h3
      omega
  · have gt := sat_neg ht d
    have gu := sat_neg hu d
    have gs := sat_neg hs d
    rcases h with ⟨h0, h1, h2, h3⟩ | ⟨h0, h1, h2, h3⟩
    · refine .inl ⟨Int.not_lt.1 fun hc => ?_, h0, h1, h2, h3⟩
      have a1 := Int.mul_pos_of_neg_of_neg hc g
      have a0 := mul_pn h0 gt
      have a2 := mul_pp h1 gu
      have a3 := mul_pn h2 gs
      have a4 := Int.mul_pos_of_neg_of_neg d h3
      omega
    · refine .inr ⟨Int.not_lt.1 fun hc => ?_, h0, h1, h2, h3⟩
      have a1 := Int.mul_neg_of_pos_of_neg hc g
      have a0 := mul_pp h0 gt
      have a2 := mul_pn h1 gu
      have a3 := mul_pp h2 gs
      have a4 := Int.mul_neg_of_neg_of_pos d h3
      omega
def At0 (l : List Rw) : Prop := (∃ q ∈ l, ∃ r ∈ l, ∃ s ∈ l, detR q r s ≠ 0 ∧ ∀ t ∈ l, Sat q r s t) ∨ ∃ p ∈ l, ∃ q ∈ l, ∃ r ∈ l, ∃ s ∈ l, Con p q r s
theorem space_base {q r s : Rw} (h : detR q r s ≠ 0) : At0 [q, r, s] := by
  refine .inl ⟨q, by simp, r, by simp, s, by simp, h, fun t ht => ?_⟩
  obtain ⟨h1, h2, h3⟩ := sat_same q r s
  simp only [List.mem_cons, List.not_mem_nil, or_false] at ht
  rcases ht with rfl | rfl | rfl
  · exact h1
  · exact h2
  · exact h3
theorem space_across {q r s t : Rw} (h : detR q r s ≠ 0) (ht : t.a ≠ 0 ∨ t.b ≠ 0 ∨ t.c ≠ 0) : detR t q r ≠ 0 ∨ detR t q s ≠ 0 ∨ detR t r s ≠ 0 := by
  refine Classical.not_not.1 fun hn => ?_
  have h1 : detR t q r = 0 := by omega
  have h2 : detR t q s = 0 := by omega
  have h3 : detR t r s = 0 := by omega
  have ea := can_a t q r s
  have eb := can_b t q r s
  have ec := can_c t q r s
  rw [h1, h2, h3] at ea eb ec
  simp only [Int.zero_mul, Int.sub_zero, Int.add_zero] at ea eb ec
  rcases ht with ht | ht | ht
  · exact ((Int.mul_eq_zero.1 ea).elim h ht)
  · exact ((Int.mul_eq_zero.1 eb).elim h ht)
  · exact ((Int.mul_eq_zero.1 ec).elim h ht)
theorem space_step {t : Rw} {l : List Rw} (ht : t.a ≠ 0 ∨ t.b ≠ 0 ∨ t.c ≠ 0) (h : At0 l) : At0 (t :: l) := by
  have mm : ∀ {x : Rw}, x ∈ l → x ∈ t :: l := fun h => List.mem_cons_of_mem _ h
  have mt : t ∈ t :: l := List.mem_cons_self
  rcases h with ⟨q, hq, r, hr, s, hs, hd, hall⟩ | ⟨p, hp, q, hq, r, hr, s, hs, hc⟩
  · by_cases hv : Sat q r s t
    · refine .inl ⟨q, mm hq, r, mm hr, s, mm hs, hd, fun s hs => ?_⟩
      rcases List.mem_cons.1 hs with rfl | hs
      · exact hv
      · exact hall s hs
    · have hx : ∃ a ∈ l, ∃ b ∈ l, detR t a b ≠ 0 := by
        rcases space_across hd ht with h | h | h
        · exact ⟨q, hq, r, hr, h⟩
        · exact ⟨q, hq, s, hs, h⟩
        · exact ⟨r, hr, s, hs, h⟩
      rcases plane_any hx with ⟨a, ha, b, hb, hn, h⟩ | ⟨a, ha, b, hb, c, hc, h⟩
      · refine .inl ⟨t, mt, a, mm ha, b, mm hb, hn, fun s hs => ?_⟩
        rcases List.mem_cons.1 hs with rfl | hs
        · exact (sat_same s a b).1
        · exact h s hs
      · exact .inr ⟨t, mt, a, mm ha, b, mm hb, c, mm hc, space_sign hv (hall a ha) (hall b hb) (hall c hc) h⟩
  · exact .inr ⟨p, mm hp, q, mm hq, r, mm hr, s, mm hs, hc⟩
theorem space_app {b : List Rw} (h : At0 b) : ∀ l : List Rw, (∀ t ∈ l, t.a ≠ 0 ∨ t.b ≠ 0 ∨ t.c ≠ 0) → At0 (l ++ b)
  | [], _ => h
  | t :: l, hl => space_step (hl t List.mem_cons_self) (space_app h l fun x hx => hl x (List.mem_cons_of_mem _ hx))
theorem farkas {l : List Rw} (hl : ∀ t ∈ l, t.a ≠ 0 ∨ t.b ≠ 0 ∨ t.c ≠ 0) (h : ∃ q ∈ l, ∃ r ∈ l, ∃ s ∈ l, detR q r s ≠ 0) : At0 l := by
  obtain ⟨q, hq, r, hr, s, hs, hd⟩ := h
  have m : ∀ {x}, x ∈ l ++ [q, r, s] → x ∈ l := fun {x} hx => by
    rcases List.mem_append.1 hx with hx | hx
    · exact hx
    · simp only [List.mem_cons, List.not_mem_nil, or_false] at hx
      rcases hx with rfl | rfl | rfl
      · exact hq
      · exact hr
      · exact hs
  have m' : ∀ {x}, x ∈ l → x ∈ l ++ [q, r, s] := fun hx => List.mem_append.2 (.inl hx)
  rcases space_app (space_base hd) l hl with ⟨a, ha, b, hb, c, hc, h1, h2⟩ | ⟨a, ha, b, hb, c, hc, d, hd, h1⟩
  · exact .inl ⟨a, m ha, b, m hb, c, m hc, h1, fun s hs => h2 s (m' hs)⟩
  · exact .inr ⟨a, m ha, b, m hb, c, m hc, d, m hd, h1⟩
end Go.Proofs.YtkieepmkcaipaaaGreat
