/- An arch with valid loads stands, or four of its conditions contradict each other, and never both. Plain; no walk. -/
import Derived.Test.YtkieepmkcaipaaaGreatYACn
import Derived.Test.YtkieepmkcaipaaaGreatYADd
import Derived.Test.YtkieepmkcaipaaaGreatYABl
import Derived.Test.YtkieepmkcaipaaaGreatYMFk
namespace Go.Proofs.YtkieepmkcaipaaaGreat
open Go.Eng

def smR (r : Rw) : Prop := (-60 ≤ r.a ∧ r.a ≤ 60) ∧ (-60 ≤ r.b ∧ r.b ≤ 60) ∧ (-1 ≤ r.c ∧ r.c ≤ 1) ∧ -141120000 ≤ r.d ∧ r.d ≤ 141120000
theorem smR_ok {r : Rw} (h : smR r) : rowB r = true := by
  unfold smR at h
  rw [rowB_true]
  omega
theorem rowI_sm {js : List Jt} {ls : List Ld} (h : loadsB js ls = true) {k : Nat} (hk : k < js.length) : smR (rowI js ls k) := by
  have ha := loads_arch h
  have h8 := arch_len ha
  have hj := joint_in ha hk
  rw [ptOk_true, ptOk_true] at hj
  have h1 := lw_bd h (k := k) (by omega)
  have h2 := lm_bd h (k := k) (by omega)
  have h3 := mul_bd (a := (jat js k).i.x) (b := lwA js ls k) (m := 60) (n := 1327200) (by omega) (by omega)
  unfold smR rowI
  simp only
  rw [w64 (n := (jat js k).i.x * lwA js ls k) (by omega), w64 (by omega)]
  omega
theorem rowO_sm {js : List Jt} {ls : List Ld} (h : loadsB js ls = true) {k : Nat} (hk : k < js.length) : smR (rowO js ls k) := by
  have ha := loads_arch h
  have h8 := arch_len ha
  have hj := joint_in ha hk
  rw [ptOk_true, ptOk_true] at hj
  have h1 := lw_bd h (k := k) (by omega)
  have h2 := lm_bd h (k := k) (by omega)
  have h3 := mul_bd (a := (jat js k).o.x) (b := lwA js ls k) (m := 60) (n := 1327200) (by omega) (by omega)
  unfold smR rowO
  simp only
  rw [w64 (n := (jat js k).o.x * lwA js ls k) (by omega), w64 (by omega)]
  omega
theorem rowsN_mem {js : List Jt} {ls : List Ld} {r : Rw} : ∀ {n : Nat}, r ∈ rowsN js ls n → ∃ k, k < n ∧ (r = rowI js ls k ∨ r = rowO js ls k)
  | 0, h => by simp [rowsN] at h
  | n + 1, h => by
    simp only [rowsN, List.mem_append, List.mem_cons, List.not_mem_nil, or_false] at h
    rcases h with h | h
    · obtain ⟨k, hk, h⟩ := rowsN_mem h
      exact ⟨k, by omega, h⟩
    · exact ⟨n, by omega, h⟩
theorem rowsAll_mem {js : List Jt} {ls : List Ld} {r : Rw} (h : r ∈ rowsAll js ls) : (∃ k, k < js.length ∧ (r = rowI js ls k ∨ r = rowO js ls k)) ∨ r = rowE := by
  simp only [rowsAll, List.mem_append, List.mem_singleton] at h
  exact h.imp rowsN_mem id
theorem rowsN_in {js : List Jt} {ls : List Ld} {k : Nat} : ∀ {n : Nat}, k < n → (rowsN js ls n)[2 * k]? = some (rowI js ls k) ∧ (rowsN js ls n)[2 * k + 1]? = some (rowO js ls k)
  | n + 1, h => by
    have hl := rowsN_len js ls n
    by_cases e : k = n
    · subst e
      simp only [rowsN]
      rw [List.getElem?_append_right (by omega), List.getElem?_append_right (by omega), hl]
      simp
    · have ih := rowsN_in (js := js) (ls := ls) (show k < n by omega)
      simp only [rowsN]
      rw [List.getElem?_append_left (by omega), List.getElem?_append_left (by omega)]
      exact ih
theorem rowsAll_I {js : List Jt} {ls : List Ld} {k : Nat} (h : k < js.length) : wat (rowsAll js ls) (2 * k) = rowI js ls k ∧ wat (rowsAll js ls) (2 * k + 1) = rowO js ls k := by
  have h1 := rowsN_in (js := js) (ls := ls) h
  have hl := rowsN_len js ls js.length
  unfold wat rowsAll
  simp only [List.getD_eq_getElem?_getD]
  rw [List.getElem?_append_left (by omega), List.getElem?_append_left (by omega), h1.1, h1.2]
  exact ⟨rfl, rfl⟩
theorem rowsAll_sm {js : List Jt} {ls : List Ld} (h : loadsB js ls = true) {r : Rw} (hr : r ∈ rowsAll js ls) : smR r := by
  rcases rowsAll_mem hr with ⟨k, hk, rfl | rfl⟩ | rfl
  · exact rowI_sm h hk
  · exact rowO_sm h hk
  · unfold smR rowE; decide
theorem rowsA_go {js : List Jt} {ls : List Ld} (h : loadsB js ls = true) : rowsA js ls = rowsAll js ls := by
  have h2 : (rowsAll js ls).all rowB = true := List.all_eq_true.2 fun r hr => smR_ok (rowsAll_sm h hr)
  unfold rowsA
  rw [h, h2]
  rfl
theorem rowsA_no {js : List Jt} {ls : List Ld} (h : loadsB js ls = false) : rowsA js ls = [] := by
  unfold rowsA
  rw [h]
  rfl
theorem rowsAll_dir {js : List Jt} {ls : List Ld} {r : Rw} (hr : r ∈ rowsAll js ls) : r.a ≠ 0 ∨ r.b ≠ 0 ∨ r.c ≠ 0 := by
  rcases rowsAll_mem hr with ⟨k, hk, rfl | rfl⟩ | rfl
  · exact .inr (.inr (by simp [rowI]))
  · exact .inr (.inr (by simp [rowO]))
  · exact .inl (by simp [rowE])
theorem arch_x {js : List Jt} (h : archB js = true) {k : Nat} (hk : k + 1 < js.length) : (jat js k).i.x < (jat js (k + 1)).i.x := by
  simp only [archB, Bool.and_eq_true, List.all_eq_true] at h
  have := h.2 k (List.mem_range.2 (by omega))
  simp only [stepB, Bool.and_eq_true, decide_eq_true_eq] at this
  exact this.2
theorem rows_at {rs : List Rw} {i : Nat} (h : i < rs.length) : wat rs i ∈ rs := List.mem_of_getElem? (wat_lt h)
theorem rows_span {js : List Jt} {ls : List Ld} (h : loadsB js ls = true) : ∃ q ∈ rowsAll js ls, ∃ r ∈ rowsAll js ls, ∃ s ∈ rowsAll js ls, detR q r s ≠ 0 := by
  have ha := loads_arch h
  have h8 := arch_len ha
  have hl := rowsAll_len js ls
  have hx : (jat js 0).i.x < (jat js 1).i.x := arch_x ha (k := 0) (by omega)
  refine ⟨rowI js ls 0, ?_, rowI js ls 1, ?_, rowE, by simp [rowsAll], ?_⟩
  · rw [← (rowsAll_I (js := js) (ls := ls) (k := 0) (by omega)).1]; exact rows_at (by omega)
  · rw [← (rowsAll_I (js := js) (ls := ls) (k := 1) (by omega)).1]; exact rows_at (by omega)
  · have e : detR (rowI js ls 0) (rowI js ls 1) rowE = (jat js 0).i.x - (jat js 1).i.x := by
      simp only [detR, det3, rowI, rowE]; grind
    rw [e]
    omega

theorem sort3 {P : Nat → Nat → Nat → Prop} (h12 : ∀ a b c, P a b c → P b a c) (h23 : ∀ a b c, P a b c → P a c b) {i j k : Nat} (h : P i j k) (ij : i ≠ j) (jk : j ≠ k) (ik : i ≠ k) : ∃ a b c, a < b ∧ b < c ∧ P a b c := by
  rcases Nat.lt_or_gt_of_ne ij with h1 | h1 <;> rcases Nat.lt_or_gt_of_ne jk with h2 | h2 <;> rcases Nat.lt_or_gt_of_ne ik with h3 | h3
  · exact ⟨i, j, k, h1, h2, h⟩
  · omega
  · exact ⟨i, k, j, h3, h2, h23 _ _ _ h⟩
  · exact ⟨k, i, j, h3, h1, h12 _ _ _ (h23 _ _ _ h)⟩
  · exact ⟨j, i, k, h1, h3, h12 _ _ _ h⟩
  · exact ⟨j, k, i, h2, h3, h23 _ _ _ (h12 _ _ _ h)⟩
  · omega
  · exact ⟨k, j, i, h2, h1, h12 _ _ _ (h23 _ _ _ (h12 _ _ _ h))⟩
theorem sat_23 {p q r s : Rw} : Sat p r q s ↔ Sat p q r s := by
  unfold Sat; rw [detR_23 p q r, sum4_23 p q r s]; simp [Int.neg_mul_neg]
theorem addO_sub {l : List Rw} {out : List Th} {o : Option Th} {t : Th} (h : t ∈ out) : t ∈ addO l out o := by
  cases o with
  | none => exact h
  | some u =>
    unfold addO
    simp only
    cases hasT out u
    · cases l.all (holB u)
      · exact h
      · exact List.mem_append.2 (.inl h)
    · exact h
theorem addO_mem {l : List Rw} {out : List Th} {t : Th} (h : l.all (holB t) = true) : t ∈ addO l out (some t) := by
  unfold addO
  simp only
  cases e : hasT out t
  · rw [h]
    exact List.mem_append.2 (.inr (by simp))
  · exact hasT_iff.1 e
theorem cM_sub {l : List Rw} {i k : Nat} {out : List Th} {t : Th} (h : t ∈ out) : ∀ n, t ∈ cM l i k out n
  | 0 => h
  | n + 1 => addO_sub (cM_sub h n)
theorem cM_has {l : List Rw} {i k : Nat} {out : List Th} {t : Th} {m : Nat} (hs : slvA l i k (k + 1 + m) = some t) (h : l.all (holB t) = true) : ∀ n, m < n → t ∈ cM l i k out n
  | n + 1, hm => by
    by_cases e : m = n
    · subst e
      simp only [cM]
      rw [hs]
      exact addO_mem h
    · exact addO_sub (cM_has hs h n (by omega))
theorem cK_sub {l : List Rw} {i : Nat} {out : List Th} {t : Th} (h : t ∈ out) : ∀ n, t ∈ cK l i out n
  | 0 => h
  | n + 1 => cM_sub (cK_sub h n) _
theorem cK_has {l : List Rw} {i : Nat} {out : List Th} {t : Th} {k m : Nat} (hm : m < l.length - (i + 1 + k + 1)) (hs : slvA l i (i + 1 + k) (i + 1 + k + 1 + m) = some t) (h : l.all (holB t) = true) : ∀ n, k < n → t ∈ cK l i out n
  | n + 1, hk => by
    by_cases e : k = n
    · subst e
      exact cM_has hs h _ hm
    · exact cM_sub (cK_has hm hs h n (by omega)) _
theorem cI_has {l : List Rw} {t : Th} {i k m : Nat} (hk : k < l.length - (i + 1)) (hm : m < l.length - (i + 1 + k + 1)) (hs : slvA l i (i + 1 + k) (i + 1 + k + 1 + m) = some t) (h : l.all (holB t) = true) : ∀ n, i < n → t ∈ cI l n
  | n + 1, hi => by
    by_cases e : i = n
    · subst e
      exact cK_has hm hs h _ hk
    · exact cK_sub (cI_has hk hm hs h n (by omega)) _
theorem corL_has {l : List Rw} {t : Th} {i k m : Nat} (h20 : l.length ≤ 20) (hall : l.all rowB = true) (ik : i < k) (km : k < m) (hm : m < l.length) (hs : slv (wat l i) (wat l k) (wat l m) = some t) (h : l.all (holB t) = true) : t ∈ corL l := by
  have e : (l.all rowB && inR l.length 3 20) = true := by rw [hall, inR_true.2 (by omega)]; rfl
  unfold corL
  rw [e]
  refine cI_has (i := i) (k := k - (i + 1)) (m := m - (k + 1)) (by omega) (by omega) ?_ h _ (by omega)
  rw [show i + 1 + (k - (i + 1)) = k by omega, show k + 1 + (m - (k + 1)) = m by omega]
  exact hs
theorem tdiv_back {g x : Int} (h : g ∣ x) : x.tdiv g * g = x := Int.tdiv_mul_cancel h
theorem gcd4_dvd (t : Th) : ((gcd4 t : Int) ∣ t.h) ∧ ((gcd4 t : Int) ∣ t.v) ∧ ((gcd4 t : Int) ∣ t.m) ∧ ((gcd4 t : Int) ∣ t.d) := by
  unfold gcd4
  have a : ∀ x : Int, ∀ n : Nat, n ∣ x.natAbs → (n : Int) ∣ x := fun x n h => Int.ofNat_dvd_left.2 h
  exact ⟨a _ _ (Nat.dvd_trans (Nat.gcd_dvd_left _ _) (Nat.gcd_dvd_left _ _)), a _ _ (Nat.dvd_trans (Nat.gcd_dvd_left _ _) (Nat.gcd_dvd_right _ _)), a _ _ (Nat.dvd_trans (Nat.gcd_dvd_right _ _) (Nat.gcd_dvd_left _ _)), a _ _ (Nat.dvd_trans (Nat.gcd_dvd_right _ _) (Nat.gcd_dvd_right _ _))⟩
theorem gcd4_one {t : Th} (h : t.d ≠ 0) : gcd4 (mkD t) = 1 := by
  obtain ⟨h1, h2, h3, h4⟩ := gcd4_dvd t
  have hg : (mkG t).natAbs = gcd4 t := by unfold mkG; split <;> simp
  have hz : 0 < gcd4 t := Nat.pos_of_ne_zero fun h0 => h (by rw [h0] at h4; simpa using h4)
  have n : ∀ x : Int, (x.tdiv (mkG t)).natAbs = x.natAbs / gcd4 t := fun x => by rw [Int.natAbs_tdiv, hg]; rfl
  have d : ∀ x : Int, (gcd4 t : Int) ∣ x → gcd4 t ∣ x.natAbs := fun x hx => Int.ofNat_dvd_left.1 hx
  have e : gcd4 (mkD t) = Nat.gcd (Nat.gcd (t.h.natAbs / gcd4 t) (t.v.natAbs / gcd4 t)) (Nat.gcd (t.m.natAbs / gcd4 t) (t.d.natAbs / gcd4 t)) := by
    show Nat.gcd (Nat.gcd _ _) (Nat.gcd _ _) = _
    simp only [mkD, n]
  rw [e, Nat.gcd_div (d _ h1) (d _ h2), Nat.gcd_div (d _ h3) (d _ h4), Nat.gcd_div (Nat.dvd_gcd (d _ h1) (d _ h2)) (Nat.dvd_gcd (d _ h3) (d _ h4))]
  exact Nat.div_self hz
theorem abs_mul {a b : Int} {m : Nat} (hb : b ≠ 0) (h : (a * b).natAbs ≤ m) : a.natAbs ≤ m := by
  rw [Int.natAbs_mul] at h
  exact Nat.le_trans (Nat.le_mul_of_pos_right _ (by omega)) h
theorem holB_of {t : Th} (ht : thOk t = true) {r : Rw} (hr : rowB r = true) : holB t r = true ↔ r.a * t.h + r.b * t.v + r.c * t.m ≤ r.d * t.d := by
  simp only [thOk, Bool.and_eq_true] at ht
  have h := ht.1
  simp only [thIn, Bool.and_eq_true, inR_true] at h
  rw [rowB_true] at hr
  have m1 := mul_bd (a := r.a) (b := t.h) (m := 100) (n := 1000000000000) (by omega) (by omega)
  have m2 := mul_bd (a := r.b) (b := t.v) (m := 100) (n := 10000000000000) (by omega) (by omega)
  have m3 := mul_bd (a := r.c) (b := t.m) (m := 1) (n := 10000000000000) (by omega) (by omega)
  have m4 := mul_bd (a := r.d) (b := t.d) (m := 1000000000) (n := 1000000) (by omega) (by omega)
  unfold holB lhs rhs
  rw [w64 (n := r.a * t.h) (by omega), w64 (n := r.b * t.v) (by omega), w64 (n := r.c * t.m) (by omega), w64 (n := r.a * t.h + r.b * t.v) (by omega), w64 (n := r.a * t.h + r.b * t.v + r.c * t.m) (by omega), w64 (n := r.d * t.d) (by omega)]
  simp
theorem slv_sat {p q r : Rw} (hp : smR p) (hq : smR q) (hr : smR r) (hd : detR p q r ≠ 0) (he : Sat p q r rowE) : ∃ t, slv p q r = some t ∧ thOk t = true ∧ ∀ s, rowB s = true → Sat p q r s → holB t s = true := by
  have bp := smR_ok hp
  have bq := smR_ok hq
  have br := smR_ok hr
  have dR := detR_bd bp bq br
  unfold smR at hp hq hr
  have dH : -60000000000 ≤ detH p q r ∧ detH p q r ≤ 60000000000 := by
    have := det3_bd (a := dbc p) (b := dbc q) (c := dbc r) (l := 141120000) (m := 60) (n := 1) (by simp; omega) (by simp; omega) (by simp; omega) (by simp; omega) (by simp; omega) (by simp; omega) (by simp; omega) (by simp; omega) (by simp; omega)
    unfold detH; omega
  have dV : -60000000000 ≤ detV p q r ∧ detV p q r ≤ 60000000000 := by
    have := det3_bd (a := adc p) (b := adc q) (c := adc r) (l := 60) (m := 141120000) (n := 1) (by simp; omega) (by simp; omega) (by simp; omega) (by simp; omega) (by simp; omega) (by simp; omega) (by simp; omega) (by simp; omega) (by simp; omega)
    unfold detV; omega
  have dM : -4000000000000 ≤ detM p q r ∧ detM p q r ≤ 4000000000000 := by
    have := det3_bd (a := abd p) (b := abd q) (c := abd r) (l := 60) (m := 60) (n := 141120000) (by simp; omega) (by simp; omega) (by simp; omega) (by simp; omega) (by simp; omega) (by simp; omega) (by simp; omega) (by simp; omega) (by simp; omega)
    unfold detM; omega
  have at4 := fun s => sum4_at p q r s
  obtain ⟨T, eT⟩ : ∃ T : Th, T = ⟨detH p q r, detV p q r, detM p q r, detR p q r⟩ := ⟨_, rfl⟩
  have tH : T.h = detH p q r := by rw [eT]
  have tV : T.v = detV p q r := by rw [eT]
  have tM : T.m = detM p q r := by rw [eT]
  have tR : T.d = detR p q r := by rw [eT]
  have det0e : det0 p q r = detR p q r := by unfold det0; rw [bp, bq, br]; rfl
  have hs : slv p q r = mkT T := by
    unfold slv
    rw [det0e, decide_eq_false hd, eT]
    rfl
  have hTd : T.d ≠ 0 := by rw [tR]; exact hd
  have hg1 := gcd4_one hTd
  obtain ⟨d1, d2, d3, d4⟩ := gcd4_dvd T
  have gz : 0 < gcd4 T := Nat.pos_of_ne_zero fun h0 => hTd (by rw [h0] at d4; simpa using d4)
  have dv : ∀ x, (gcd4 T : Int) ∣ x → mkG T ∣ x := fun x hx => by
    unfold mkG
    split
    · exact Int.neg_dvd.2 hx
    · exact hx
  obtain ⟨t, et⟩ : ∃ t, t = mkD T := ⟨_, rfl⟩
  have e1 : t.h * mkG T = T.h := by rw [et]; exact tdiv_back (dv _ d1)
  have e2 : t.v * mkG T = T.v := by rw [et]; exact tdiv_back (dv _ d2)
  have e3 : t.m * mkG T = T.m := by rw [et]; exact tdiv_back (dv _ d3)
  have e4 : t.d * mkG T = T.d := by rw [et]; exact tdiv_back (dv _ d4)
  rw [← et] at hg1
  have hG : (0 < T.d ∧ 0 < mkG T) ∨ (T.d < 0 ∧ mkG T < 0) := by
    unfold mkG
    split
    · exact .inr ⟨by assumption, by omega⟩
    · exact .inl ⟨by omega, by omega⟩
  generalize mkG T = G at e1 e2 e3 e4 hG
  have hG0 : G ≠ 0 := by omega
  have hpos : 0 < t.d := by
    refine Int.not_le.1 fun hc => ?_
    rcases hG with ⟨h1, h2⟩ | ⟨h1, h2⟩
    · have := Int.mul_nonpos_of_nonpos_of_nonneg hc (Int.le_of_lt h2)
      omega
    · have := Int.mul_nonneg_of_nonpos_of_nonpos hc (Int.le_of_lt h2)
      omega
  -- what is asked of a row, and what is asked of the point
  have key : ∀ s : Rw, (s.a * t.h + s.b * t.v + s.c * t.m - s.d * t.d) * G = sum4 p q r s := fun s => by
    rw [← at4 s, ← tH, ← tV, ← tM, ← tR, ← e1, ← e2, ← e3, ← e4]
    grind
  have holds : ∀ s, Sat p q r s → s.a * t.h + s.b * t.v + s.c * t.m ≤ s.d * t.d := fun s hS => by
    have k := key s
    refine Int.not_lt.1 fun hc => ?_
    rcases hG with ⟨h1, h2⟩ | ⟨h1, h2⟩
    · have h3 := sat_pos hS (by omega)
      have h4 := Int.mul_pos (show 0 < s.a * t.h + s.b * t.v + s.c * t.m - s.d * t.d by omega) h2
      omega
    · have h3 := sat_neg hS (by omega)
      have h4 := Int.mul_neg_of_pos_of_neg (show 0 < s.a * t.h + s.b * t.v + s.c * t.m - s.d * t.d by omega) h2
      omega
  have hE := holds rowE he
  simp only [rowE] at hE
  have a1 := abs_mul (a := t.h) (m := 60000000000) hG0 (by omega)
  have a2 := abs_mul (a := t.v) (m := 60000000000) hG0 (by omega)
  have a3 := abs_mul (a := t.m) (m := 4000000000000) hG0 (by omega)
  have a4 := abs_mul (a := t.d) (m := 60000) hG0 (by omega)
  have hIn : thIn t = true := by
    simp only [thIn, Bool.and_eq_true, inR_true]
    omega
  have hok : thOk t = true := by
    simp only [thOk, hIn, hg1, decide_true, Bool.and_self]
  have hfar : farT T = true := by
    simp only [farT, Bool.and_eq_true, farB_true, Bool.not_eq_true', decide_eq_false_iff_not]
    omega
  refine ⟨t, ?_, hok, fun s hb hS => (holB_of hok hb).2 (holds s hS)⟩
  rw [hs]
  unfold mkT
  rw [hfar, ← et, hok]
  rfl
theorem mem_at {l : List Rw} {r : Rw} (h : r ∈ l) : ∃ i, i < l.length ∧ wat l i = r := by
  obtain ⟨i, hi⟩ := List.mem_iff_getElem?.1 h
  have hl := (List.getElem?_eq_some_iff.1 hi).1
  refine ⟨i, hl, ?_⟩
  have := wat_lt hl
  rw [this] at hi
  exact Option.some.inj hi
theorem corL_sat {l : List Rw} (h20 : l.length ≤ 20) (hsm : ∀ r ∈ l, smR r) (hE : rowE ∈ l) (h : ∃ q ∈ l, ∃ r ∈ l, ∃ s ∈ l, detR q r s ≠ 0 ∧ ∀ t ∈ l, Sat q r s t) : corL l ≠ [] := by
  obtain ⟨q, hq, r, hr, s, hs, hd, hall⟩ := h
  obtain ⟨i, hi, rfl⟩ := mem_at hq
  obtain ⟨j, hj, rfl⟩ := mem_at hr
  obtain ⟨k, hk, rfl⟩ := mem_at hs
  have ne : i ≠ j ∧ j ≠ k ∧ i ≠ k := by
    refine ⟨fun e => ?_, fun e => ?_, fun e => ?_⟩ <;> subst e
    · exact hd (detR_same _ _).1
    · exact hd (detR_same _ _).2.2
    · exact hd (detR_same _ _).2.1
  obtain ⟨a, b, c, ab, bc, ha, hb, hc, hd', hS⟩ := sort3 (P := fun a b c => a < l.length ∧ b < l.length ∧ c < l.length ∧ detR (wat l a) (wat l b) (wat l c) ≠ 0 ∧ ∀ t ∈ l, Sat (wat l a) (wat l b) (wat l c) t)
    (fun a b c h => ⟨h.2.1, h.1, h.2.2.1, by rw [detR_12]; have := h.2.2.2.1; omega, fun t ht => sat_12.1 (h.2.2.2.2 t ht)⟩)
    (fun a b c h => ⟨h.1, h.2.2.1, h.2.1, by rw [detR_23]; have := h.2.2.2.1; omega, fun t ht => sat_23.1 (h.2.2.2.2 t ht)⟩)
    ⟨hi, hj, hk, hd, hall⟩ ne.1 ne.2.1 ne.2.2
  obtain ⟨t, h1, h2, h3⟩ := slv_sat (hsm _ (rows_at ha)) (hsm _ (rows_at hb)) (hsm _ (rows_at hc)) hd' (hS _ hE)
  have hB : l.all rowB = true := List.all_eq_true.2 fun r hr => smR_ok (hsm r hr)
  have := corL_has h20 hB ab bc hc h1 (List.all_eq_true.2 fun s hs => h3 s (List.all_eq_true.1 hB s hs) (hS s hs))
  intro e
  rw [e] at this
  cases this
end Go.Proofs.YtkieepmkcaipaaaGreat
