/- The hinges of a proof: as many factors inside as outside, a common point. Plain; no walk. -/
import Derived.Test.YtkaffcdjhbaifaaGreatYG8
import Derived.Test.YtkaffcdjhbaifaaGreatYAMe
import Derived.Test.YtkaffcdjhbaifaaGreatYG1
namespace Go.Proofs.YtkaffcdjhbaifaaGreat
open Go.Eng

structure HgS (js : List Jt) (ls : List Ld) (ks fs : List Int) (t : Nat) (I O E XI YI XO YO : Int) : Prop where
  i : sumN js ks fs false t = I
  o : sumN js ks fs true t = O
  e : sumE js ks fs t = E
  xi : sumS js ks fs false Pt.x t = XI
  yi : sumS js ks fs false Pt.y t = YI
  xo : sumS js ks fs true Pt.x t = XO
  yo : sumS js ks fs true Pt.y t = YO
  a : sumR (rowsAll js ls) ks fs Rw.a t = YI - YO - E
  b : sumR (rowsAll js ls) ks fs Rw.b t = XO - XI
  c : sumR (rowsAll js ls) ks fs Rw.c t = I - O
  ib : 0 ≤ I ∧ I ≤ t * 1000000
  ob : 0 ≤ O ∧ O ≤ t * 1000000
  eb : 0 ≤ E ∧ E ≤ t * 1000000
  xib : -(t * 60000000) ≤ XI ∧ XI ≤ t * 60000000
  yib : -(t * 60000000) ≤ YI ∧ YI ≤ t * 60000000
  xob : -(t * 60000000) ≤ XO ∧ XO ≤ t * 60000000
  yob : -(t * 60000000) ≤ YO ∧ YO ≤ t * 60000000
  all : (t : Int) ≤ I + O + E
  i0 : I = 0 → YI = 0
  o0 : O = 0 → YO = 0
  im : 0 < I → ∃ s, s < t ∧ iat ks s < 2 * js.length ∧ (iat ks s).tmod 2 = 0
  om : 0 < O → ∃ s, s < t ∧ iat ks s < 2 * js.length ∧ (iat ks s).tmod 2 = 1
theorem hgS {js : List Jt} {ls : List Ld} {ks fs : List Int} (hl : loadsB js ls = true) (hp : pfB (rowsAll js ls) ks fs = true) : ∀ t, t ≤ ks.length → ∃ I O E XI YI XO YO, HgS js ls ks fs t I O E XI YI XO YO
  | 0, _ => ⟨0, 0, 0, 0, 0, 0, 0, rfl, rfl, rfl, rfl, rfl, rfl, rfl, rfl, rfl, rfl, by omega, by omega, by omega, by omega, by omega, by omega, by omega, by omega, fun _ => rfl, fun _ => rfl, fun h => absurd h (by omega), fun h => absurd h (by omega)⟩
  | t + 1, ht => by
    obtain ⟨I, O, E, XI, YI, XO, YO, H⟩ := hgS hl hp t (by omega)
    have h4 := (pf_len hp).2.1
    obtain ⟨⟨k0, k1⟩, ⟨f0, f1⟩, _⟩ := pf_at hp (k := t) (by omega)
    rw [rowsAll_len] at k1
    have ha := loads_arch hl
    obtain ⟨Hi, Ho, He, Hxi, Hyi, Hxo, Hyo, Ha, Hb, Hc, Hib, Hob, Heb, Hxib, Hyib, Hxob, Hyob, Hall, Hi0, Ho0, Him, Hom⟩ := H
    have hmem : ∀ {P : Nat → Prop}, (∃ s, s < t ∧ P s) → ∃ s, s < t + 1 ∧ P s := fun ⟨s, h1, h2⟩ => ⟨s, by omega, h2⟩
    generalize hf : iat fs t = f at *
    obtain ⟨r, hr⟩ : ∃ r : Nat, iat ks t = r := ⟨(iat ks t).toNat, by omega⟩
    rw [hr] at k0 k1
    have hd : r = 2 * js.length ∨ (∃ j, j < js.length ∧ r = 2 * j) ∨ (∃ j, j < js.length ∧ r = 2 * j + 1) := by
      have : r % 2 = 0 ∨ r % 2 = 1 := by omega
      rcases this with h | h
      · by_cases h2 : r = 2 * js.length
        · exact .inl h2
        · exact .inr (.inl ⟨r / 2, by omega, by omega⟩)
      · exact .inr (.inr ⟨r / 2, by omega, by omega⟩)
    rcases hd with rfl | ⟨j, hj, rfl⟩ | ⟨j, hj, rfl⟩
    · have s1 : ∀ o, sideB (2 * js.length) ((2 * js.length : Nat) : Int) o = false := fun o => by simp [sideB]
      have s2 : (((2 * js.length : Nat) : Int) == 2 * (js.length : Int)) = true := by simp
      have w1 : W64 (E + f) = E + f := w64 (by omega)
      have z : ∀ g, sumR (rowsAll js ls) ks fs g (t + 1) = sumR (rowsAll js ls) ks fs g t + f * g rowE := fun g => by simp only [sumR, hr, hf, Int.toNat_natCast, rowsAll_E]
      refine ⟨I, O, E + f, XI, YI, XO, YO, by simp only [sumN, hr, s1, cond_false, Hi], by simp only [sumN, hr, s1, cond_false, Ho], by simp only [sumE, hr, s2, cond_true, hf, He, w1], by simp only [sumS, hr, s1, cond_false, Hxi], by simp only [sumS, hr, s1, cond_false, Hyi], by simp only [sumS, hr, s1, cond_false, Hxo], by simp only [sumS, hr, s1, cond_false, Hyo], by rw [z, Ha]; simp only [rowE]; omega, by rw [z, Hb]; simp only [rowE]; omega, by rw [z, Hc]; simp only [rowE]; omega, by omega, by omega, by omega, by omega, by omega, by omega, by omega, by omega, Hi0, Ho0, fun h => hmem (Him h), fun h => hmem (Hom h)⟩
    · have e1 : (((2 * j : Nat) : Int)).tmod 2 = 0 := by rw [Int.tmod_eq_emod_of_nonneg (by omega)]; omega
      have e2 : (((2 * j : Nat) : Int)).tdiv 2 = (j : Int) := by rw [Int.tdiv_eq_ediv_of_nonneg (by omega)]; omega
      have e3 : (((2 * j : Nat) : Int) != 2 * (js.length : Int)) = true := by simp; omega
      have e4 : (((2 * j : Nat) : Int) == 2 * (js.length : Int)) = false := by simp; omega
      have s1 : sideB (2 * js.length) ((2 * j : Nat) : Int) false = true := by simp only [sideB, e1, e3]; rfl
      have s2 : sideB (2 * js.length) ((2 * j : Nat) : Int) true = false := by simp only [sideB, e1, e3]; rfl
      obtain ⟨p1, _⟩ := joint_in ha hj
      rw [ptOk_true] at p1
      have m1 := mul_bd (a := f) (b := (jat js j).i.x) (m := 1000000) (n := 60) (by omega) (by omega)
      have m2 := mul_bd (a := f) (b := (jat js j).i.y) (m := 1000000) (n := 60) (by omega) (by omega)
      have hw := (rowsAll_I (ls := ls) hj).1
      have w1 : W64 (f * (jat js j).i.x) = f * (jat js j).i.x := w64 (by omega)
      have w2 : W64 (f * (jat js j).i.y) = f * (jat js j).i.y := w64 (by omega)
      have w3 : W64 (I + f) = I + f := w64 (by omega)
      have w4 : W64 (XI + f * (jat js j).i.x) = XI + f * (jat js j).i.x := w64 (by omega)
      have w5 : W64 (YI + f * (jat js j).i.y) = YI + f * (jat js j).i.y := w64 (by omega)
      have n1 : f * -(jat js j).i.x = -(f * (jat js j).i.x) := Int.mul_neg ..
      have z : ∀ g, sumR (rowsAll js ls) ks fs g (t + 1) = sumR (rowsAll js ls) ks fs g t + f * g (rowI js ls j) := fun g => by simp only [sumR, hr, hf, Int.toNat_natCast, hw]
      have po : ptO js ((2 * j : Nat) : Int) false = (jat js j).i := by simp only [ptO, e2, cond_false, Int.toNat_natCast]
      refine ⟨I + f, O, E, XI + f * (jat js j).i.x, YI + f * (jat js j).i.y, XO, YO, by simp only [sumN, hr, hf, s1, cond_true, Hi, w3], by simp only [sumN, hr, s2, cond_false, Ho], by simp only [sumE, hr, e4, cond_false, He], by simp only [sumS, hr, hf, s1, cond_true, Hxi, po, w1, w4], by simp only [sumS, hr, hf, s1, cond_true, Hyi, po, w2, w5], by simp only [sumS, hr, s2, cond_false, Hxo], by simp only [sumS, hr, s2, cond_false, Hyo], by rw [z, Ha]; simp only [rowI]; omega, by rw [z, Hb]; simp only [rowI, n1]; omega, by rw [z, Hc]; simp only [rowI]; omega, by omega, by omega, by omega, by omega, by omega, by omega, by omega, by omega, fun h => by omega, Ho0, fun _ => ⟨t, by omega, by rw [hr]; omega, by rw [hr]; exact e1⟩, fun h => hmem (Hom h)⟩
    · have e1 : (((2 * j + 1 : Nat) : Int)).tmod 2 = 1 := by rw [Int.tmod_eq_emod_of_nonneg (by omega)]; omega
      have e2 : (((2 * j + 1 : Nat) : Int)).tdiv 2 = (j : Int) := by rw [Int.tdiv_eq_ediv_of_nonneg (by omega)]; omega
      have e3 : (((2 * j + 1 : Nat) : Int) != 2 * (js.length : Int)) = true := by simp; omega
      have e4 : (((2 * j + 1 : Nat) : Int) == 2 * (js.length : Int)) = false := by simp; omega
      have s1 : sideB (2 * js.length) ((2 * j + 1 : Nat) : Int) true = true := by simp only [sideB, e1, e3]; rfl
      have s2 : sideB (2 * js.length) ((2 * j + 1 : Nat) : Int) false = false := by simp only [sideB, e1, e3]; rfl
      obtain ⟨_, p1⟩ := joint_in ha hj
      rw [ptOk_true] at p1
      have m1 := mul_bd (a := f) (b := (jat js j).o.x) (m := 1000000) (n := 60) (by omega) (by omega)
      have m2 := mul_bd (a := f) (b := (jat js j).o.y) (m := 1000000) (n := 60) (by omega) (by omega)
      have hw := (rowsAll_I (ls := ls) hj).2
      have w1 : W64 (f * (jat js j).o.x) = f * (jat js j).o.x := w64 (by omega)
      have w2 : W64 (f * (jat js j).o.y) = f * (jat js j).o.y := w64 (by omega)
      have w3 : W64 (O + f) = O + f := w64 (by omega)
      have w4 : W64 (XO + f * (jat js j).o.x) = XO + f * (jat js j).o.x := w64 (by omega)
      have w5 : W64 (YO + f * (jat js j).o.y) = YO + f * (jat js j).o.y := w64 (by omega)
      have n1 : f * -(jat js j).o.y = -(f * (jat js j).o.y) := Int.mul_neg ..
      have z : ∀ g, sumR (rowsAll js ls) ks fs g (t + 1) = sumR (rowsAll js ls) ks fs g t + f * g (rowO js ls j) := fun g => by simp only [sumR, hr, hf, Int.toNat_natCast, hw]
      have po : ptO js ((2 * j + 1 : Nat) : Int) true = (jat js j).o := by simp only [ptO, e2, cond_true, Int.toNat_natCast]
      refine ⟨I, O + f, E, XI, YI, XO + f * (jat js j).o.x, YO + f * (jat js j).o.y, by simp only [sumN, hr, s2, cond_false, Hi], by simp only [sumN, hr, hf, s1, cond_true, Ho, w3], by simp only [sumE, hr, e4, cond_false, He], by simp only [sumS, hr, s2, cond_false, Hxi], by simp only [sumS, hr, s2, cond_false, Hyi], by simp only [sumS, hr, hf, s1, cond_true, Hxo, po, w1, w4], by simp only [sumS, hr, hf, s1, cond_true, Hyo, po, w2, w5], by rw [z, Ha]; simp only [rowO, n1]; omega, by rw [z, Hb]; simp only [rowO]; omega, by rw [z, Hc]; simp only [rowO]; omega, by omega, by omega, by omega, by omega, by omega, by omega, by omega, by omega, Hi0, fun h => by omega, fun h => hmem (Him h), fun _ => ⟨t, by omega, by rw [hr]; omega, by rw [hr]; exact e1⟩⟩
structure HgF (js : List Jt) (ks fs : List Int) : Prop where
  len : 1 ≤ ks.length ∧ ks.length ≤ 4 ∧ fs.length = ks.length
  sb : hgsB js ks = true
  at_ : ∀ t, t < ks.length → (0 ≤ iat ks t ∧ iat ks t ≤ 2 * js.length) ∧ 1 ≤ iat fs t ∧ iat fs t ≤ 1000000
  si : someB js ks fs false = true
  so : someB js ks fs true = true
  cp : cpB js ks fs = true
  np : 0 < sumN js ks fs false ks.length
  nb : ∀ t, t ≤ ks.length → 0 ≤ sumN js ks fs false t ∧ sumN js ks fs false t ≤ 4000000
  xb : -240000000 ≤ sumS js ks fs false Pt.x ks.length ∧ sumS js ks fs false Pt.x ks.length ≤ 240000000
  yb : -240000000 ≤ sumS js ks fs false Pt.y ks.length ∧ sumS js ks fs false Pt.y ks.length ≤ 240000000
theorem hgL_mem {n : Int} {ks : List Int} {s : Nat} (hs : s < ks.length) (h : iat ks s < n) : hgOf (iat ks s) ∈ hgL n ks := by
  unfold hgL
  rw [List.mem_filterMap]
  exact ⟨iat ks s, List.mem_of_getElem? (iat_lt hs), by rw [if_pos h]⟩
theorem hgF {js : List Jt} {ls : List Ld} {ks fs : List Int} (hl : loadsB js ls = true) (h : ispB (rowsA js ls) ks fs = true) : HgF js ks fs := by
  rw [rowsA_go hl] at h
  obtain ⟨hp, ha, hb, hc, _⟩ := isp_sums h
  obtain ⟨I, O, E, XI, YI, XO, YO, H⟩ := hgS hl hp ks.length (Nat.le_refl _)
  obtain ⟨l1, l4, _⟩ := pf_len hp
  have hfl := (pf_at hp (k := 0) (by omega)).2.2
  have hat : ∀ t, t < ks.length → (0 ≤ iat ks t ∧ iat ks t ≤ 2 * js.length) ∧ 1 ≤ iat fs t ∧ iat fs t ≤ 1000000 := fun t ht => by
    obtain ⟨⟨k0, k1⟩, h2, _⟩ := pf_at hp ht
    rw [rowsAll_len] at k1
    exact ⟨⟨k0, by omega⟩, h2⟩
  have hsb : hgsB js ks = true := by
    simp only [hgsB, loads_arch hl, Bool.true_and, List.all_eq_true]
    intro x hx
    obtain ⟨t, ht, e⟩ := List.mem_iff_getElem.1 hx
    have := (hat t ht).1
    have e2 : iat ks t = x := by simp [iat, ht, e]
    rw [e2] at this
    exact inR_true.2 this
  have Ha := H.a; have Hb := H.b; have Hc := H.c
  rw [ha] at Ha; rw [hb] at Hb; rw [hc] at Hc
  have hib := H.ib; have hob := H.ob; have heb := H.eb; have hall := H.all
  have hpos : 0 < I := by
    rcases Int.lt_or_le 0 I with h0 | h0
    · exact h0
    · have := H.i0 (by omega)
      have := H.o0 (by omega)
      omega
  have hA : hgA js ks = hgL (2 * js.length) ks := by unfold hgA; rw [hsb]; rfl
  have hsi : someB js ks fs false = true := by
    obtain ⟨s, h1, h2, h3⟩ := H.im hpos
    simp only [someB, hfl, decide_true, Bool.and_true, List.any_eq_true, hA]
    exact ⟨_, hgL_mem h1 h2, by simp [hgOf, h3]⟩
  have hso : someB js ks fs true = true := by
    obtain ⟨s, h1, h2, h3⟩ := H.om (by omega)
    simp only [someB, hfl, decide_true, Bool.and_true, List.any_eq_true, hA]
    exact ⟨_, hgL_mem h1 h2, by simp [hgOf, h3]⟩
  have hxi := H.xib; have hyi := H.yib; have hxo := H.xob; have hyo := H.yob
  refine ⟨⟨l1, l4, hfl⟩, hsb, hat, hsi, hso, ?_, by rw [H.i]; exact hpos, fun t ht => ?_, by rw [H.xi]; omega, by rw [H.yi]; omega⟩
  · simp only [cpB, hsi, hso, Bool.true_and, H.i, H.o, H.e, H.xi, H.yi, H.xo, H.yo, Bool.and_eq_true, beq_iff_eq]
    rw [w64 (n := YO + E) (by omega)]
    omega
  · obtain ⟨I, O, E, XI, YI, XO, YO, H⟩ := hgS hl hp t ht
    have := H.ib
    rw [H.i]
    omega
structure HgH (js : List Jt) (ks : List Int) : Prop where
  at_ : ∀ k, k < (hgA js ks).length → 0 ≤ (gat (hgA js ks) k).j ∧ (gat (hgA js ks) k).j < js.length
  inner : 0 < (hgA js ks).countP (fun h => !h.o)
  outer : (hgA js ks).countP (fun h => !h.o) < (hgA js ks).length
  four : (hgA js ks).length ≤ 4
theorem hgH {js : List Jt} {ks fs : List Int} (h8 : js.length ≤ 1048576) (H : HgF js ks fs) : HgH js ks := by
  have hA : hgA js ks = hgL (2 * js.length) ks := by unfold hgA; rw [H.sb]; rfl
  have h4 := hgA_len js ks
  have hl := H.len
  refine ⟨fun k hk => ?_, ?_, ?_, by omega⟩
  · have hm := List.mem_of_getElem? (gat_lt hk)
    generalize gat (hgA js ks) k = y at hm ⊢
    rw [hA] at hm
    unfold hgL at hm
    rw [List.mem_filterMap] at hm
    obtain ⟨r, h1, h2⟩ := hm
    obtain ⟨t, ht, e⟩ := List.mem_iff_getElem.1 h1
    have e2 : iat ks t = r := by simp [iat, ht, e]
    have hr := (H.at_ t ht).1
    rw [e2] at hr
    by_cases hlt : r < 2 * js.length
    · rw [if_pos hlt] at h2
      have h3 := half_at hr.1 hlt h8
      rw [← Option.some.inj h2]
      simp only [hgOf, h3.1]
      omega
    · rw [if_neg hlt] at h2; cases h2
  · have := H.si
    simp only [someB, Bool.and_eq_true, List.any_eq_true] at this
    obtain ⟨⟨x, h1, h2⟩, _⟩ := this
    exact List.countP_pos_iff.2 ⟨x, h1, by simpa using h2⟩
  · have := H.so
    simp only [someB, Bool.and_eq_true, List.any_eq_true] at this
    obtain ⟨⟨x, h1, h2⟩, _⟩ := this
    have hle := List.countP_le_length (p := fun h : Hg => !h.o) (l := hgA js ks)
    rcases Nat.lt_or_ge ((hgA js ks).countP (fun h => !h.o)) (hgA js ks).length with h3 | h3
    · exact h3
    · exfalso
      have h5 := List.countP_eq_length.1 (Nat.le_antisymm hle h3) x h1
      simp at h2 h5
      rw [h2] at h5; cases h5
end Go.Proofs.YtkaffcdjhbaifaaGreat

namespace Go.Proofs.YtkaffcdjhbaifaaGreat
open Go.Eng
set_option maxRecDepth 100000
attribute [local irreducible] QV TV WL HW W CallOk Weak

theorem lbig_ok (l : List Int) : CallOk Tryz.prog 4 [slU l] (fun r => r = vb (decide ((1048576 : Int) < l.length))) := by
  refine callOk Tryz.func4 Tryz.ntmps4 Tryz.results4 rfl rfl rfl fun B w0 I0 => ?_
  (repeat (first | refine WL_nil ?_ | (apply wl0 (hd := rfl); (first | exact qv9); (exact gy0)) | (apply wlb (hd := rfl); exact qbx; (exact gy0); rfl) | refine wln ⟨_, rfl, rfl⟩ rfl ?_ | refine wlnu ⟨_, rfl, rfl⟩ rfl ?_ | refine wst rfl rfl rfl List.not_mem_nil rfl rfl rfl rfl rfl rfl ?_ | refine W_condT rfl ?_ | refine W_condF rfl ?_ | refine W_region ?_ | refine wN rfl ?_))
  refine Exists.intro _ ⟨Weak.refl _, Exists.intro _ ⟨resA_tmp rfl rfl, ?_, rfl⟩⟩
  rfl
end Go.Proofs.YtkaffcdjhbaifaaGreat
