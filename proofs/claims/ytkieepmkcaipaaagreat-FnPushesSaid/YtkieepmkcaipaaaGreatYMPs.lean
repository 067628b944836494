/- A thrust fulfills all rows just if it goes through all joints; the thrust in the middle fulfills them. Plain; no walk. -/
import Derived.Test.YtkieepmkcaipaaaGreatYG10
import Derived.Test.YtkieepmkcaipaaaGreatYACe
import Derived.Test.YtkieepmkcaipaaaGreatYG5
namespace Go.Proofs.YtkieepmkcaipaaaGreat
open Go.Eng

structure Mom (js : List Jt) (ls : List Ld) (t : Th) (k : Nat) (x y v : Int) : Prop where
  ex : x = t.m - t.d * lmA js ls k - (jat js k).i.x * v + (jat js k).i.y * t.h
  ey : y = t.m - t.d * lmA js ls k - (jat js k).o.x * v + (jat js k).o.y * t.h
  ev : v = t.v - t.d * lwA js ls k
  bx : -1000000000000000 ≤ x ∧ x ≤ 1000000000000000
  bY : -1000000000000000 ≤ y ∧ y ≤ 1000000000000000
  bv : -12000000000000 ≤ v ∧ v ≤ 12000000000000
theorem push_mom {js : List Jt} {ls : List Ld} {t : Th} (h : loadsB js ls = true) (ht : thOk t = true) {k : Nat} (hk : k < js.length) :
    pushB js ls t k = true ∧ ∃ x y v, mI js ls t k = x ∧ mO js ls t k = y ∧ pV js ls t k = v ∧ pH js ls t k = t.h ∧ upT t (lwA js ls k) = v ∧ Mom js ls t k x y v := by
  have ha := loads_arch h
  have h8 := arch_len ha
  have hj := joint_in ha hk
  rw [ptOk_true, ptOk_true] at hj
  have b1 := lw_bd h (k := k) (by omega)
  have b2 := lm_bd h (k := k) (by omega)
  have hT := thIn_true (thOk_in ht)
  have hp : pushB js ls t k = true := by
    simp only [pushB, h, ht, Bool.true_and, inR_true]
    omega
  have m1 := mul_bd (a := t.d) (b := lwA js ls k) (m := 1000000) (n := 1327200) (by omega) (by omega)
  have m2 := mul_bd (a := t.d) (b := lmA js ls k) (m := 1000000) (n := 61488000) (by omega) (by omega)
  obtain ⟨v, ev⟩ : ∃ v, v = t.v - t.d * lwA js ls k := ⟨_, rfl⟩
  have eup : upT t (lwA js ls k) = v := by
    unfold upT
    rw [w64 (n := t.d * lwA js ls k) (by omega), w64 (by omega), ev]
  have bv : -12000000000000 ≤ v ∧ v ≤ 12000000000000 := by omega
  have mom : ∀ p : Pt, (-60 ≤ p.x ∧ p.x ≤ 60) → (-60 ≤ p.y ∧ p.y ≤ 60) → momT t (lwA js ls k) (lmA js ls k) p = t.m - t.d * lmA js ls k - p.x * v + p.y * t.h ∧ -1000000000000000 ≤ t.m - t.d * lmA js ls k - p.x * v + p.y * t.h ∧ t.m - t.d * lmA js ls k - p.x * v + p.y * t.h ≤ 1000000000000000 := by
    intro p px py
    have m3 := mul_bd (a := p.x) (b := v) (m := 60) (n := 12000000000000) px bv
    have m4 := mul_bd (a := p.y) (b := t.h) (m := 60) (n := 1000000000000) py (by omega)
    unfold momT
    rw [eup, w64 (n := t.d * lmA js ls k) (by omega), w64 (n := t.m - t.d * lmA js ls k) (by omega), w64 (n := p.x * v) (by omega), w64 (n := t.m - t.d * lmA js ls k - p.x * v) (by omega), w64 (n := p.y * t.h) (by omega), w64 (by omega)]
    omega
  obtain ⟨i1, i2, i3⟩ := mom (jat js k).i (by omega) (by omega)
  obtain ⟨o1, o2, o3⟩ := mom (jat js k).o (by omega) (by omega)
  refine ⟨hp, _, _, v, ?_, ?_, ?_, ?_, eup, ⟨rfl, rfl, ev, ⟨i2, i3⟩, ⟨o2, o3⟩, bv⟩⟩
  · simp only [mI, hp, if_true, Int.toNat_natCast]; exact i1
  · simp only [mO, hp, if_true, Int.toNat_natCast]; exact o1
  · simp only [pV, hp, if_true, Int.toNat_natCast]; exact eup
  · simp only [pH, hp, if_true]
theorem mom_diff {js : List Jt} {ls : List Ld} {t : Th} {k : Nat} {x y v : Int} (h : Mom js ls t k x y v) : y - x = -((jat js k).o.x - (jat js k).i.x) * v + ((jat js k).o.y - (jat js k).i.y) * t.h := by
  rw [h.ex, h.ey]; grind
theorem inside_rows {js : List Jt} {ls : List Ld} {t : Th} (h : loadsB js ls = true) (ht : thOk t = true) {k : Nat} (hk : k < js.length) : insB js ls t k = (fulB t (rowI js ls k) && fulB t (rowO js ls k)) := by
  obtain ⟨hp, x, y, v, e1, e2, _, _, _, hm⟩ := push_mom h ht hk
  have sI := rowI_sm h hk
  have sO := rowO_sm h hk
  have rI := smR_ok sI
  have rO := smR_ok sO
  have dI : (rowI js ls k).d = lmA js ls k - (jat js k).i.x * lwA js ls k := by
    have ha := loads_arch h
    have h8 := arch_len ha
    have hj := joint_in ha hk
    rw [ptOk_true, ptOk_true] at hj
    have h1 := lw_bd h (k := k) (by omega)
    have h2 := lm_bd h (k := k) (by omega)
    have h3 := mul_bd (a := (jat js k).i.x) (b := lwA js ls k) (m := 60) (n := 1327200) (by omega) (by omega)
    unfold rowI
    simp only
    rw [w64 (n := (jat js k).i.x * lwA js ls k) (by omega), w64 (by omega)]
  have dO : (rowO js ls k).d = (jat js k).o.x * lwA js ls k - lmA js ls k := by
    have ha := loads_arch h
    have h8 := arch_len ha
    have hj := joint_in ha hk
    rw [ptOk_true, ptOk_true] at hj
    have h1 := lw_bd h (k := k) (by omega)
    have h2 := lm_bd h (k := k) (by omega)
    have h3 := mul_bd (a := (jat js k).o.x) (b := lwA js ls k) (m := 60) (n := 1327200) (by omega) (by omega)
    unfold rowO
    simp only
    rw [w64 (n := (jat js k).o.x * lwA js ls k) (by omega), w64 (by omega)]
  have fI : fulB t (rowI js ls k) = decide (x ≤ 0) := by
    have e := holB_of ht rI
    have key : ((rowI js ls k).a * t.h + (rowI js ls k).b * t.v + (rowI js ls k).c * t.m ≤ (rowI js ls k).d * t.d) ↔ x ≤ 0 := by
      have : (rowI js ls k).a * t.h + (rowI js ls k).b * t.v + (rowI js ls k).c * t.m - (rowI js ls k).d * t.d = x := by
        rw [dI, hm.ex, hm.ev]
        simp only [rowI]
        grind
      omega
    unfold fulB
    rw [ht, rI, Bool.true_and, Bool.true_and]
    have hh : holB t (rowI js ls k) = decide (lhs t (rowI js ls k) ≤ rhs t (rowI js ls k)) := rfl
    rw [← hh]
    by_cases hx : x ≤ 0
    · rw [decide_eq_true hx]; exact e.2 (key.2 hx)
    · rw [decide_eq_false hx]
      cases hb : holB t (rowI js ls k)
      · rfl
      · exact absurd (key.1 (e.1 hb)) hx
  have fO : fulB t (rowO js ls k) = decide (0 ≤ y) := by
    have e := holB_of ht rO
    have key : ((rowO js ls k).a * t.h + (rowO js ls k).b * t.v + (rowO js ls k).c * t.m ≤ (rowO js ls k).d * t.d) ↔ 0 ≤ y := by
      have : (rowO js ls k).a * t.h + (rowO js ls k).b * t.v + (rowO js ls k).c * t.m - (rowO js ls k).d * t.d = -y := by
        rw [dO, hm.ey, hm.ev]
        simp only [rowO]
        grind
      omega
    unfold fulB
    rw [ht, rO, Bool.true_and, Bool.true_and]
    have hh : holB t (rowO js ls k) = decide (lhs t (rowO js ls k) ≤ rhs t (rowO js ls k)) := rfl
    rw [← hh]
    by_cases hx : 0 ≤ y
    · rw [decide_eq_true hx]; exact e.2 (key.2 hx)
    · rw [decide_eq_false hx]
      cases hb : holB t (rowO js ls k)
      · rfl
      · exact absurd (key.1 (e.1 hb)) hx
  rw [fI, fO, insB, hp, e1, e2, Bool.true_and]
def insN (js : List Jt) (ls : List Ld) (t : Th) : Nat → Bool
  | 0 => true
  | k + 1 => insN js ls t k && insB js ls t k
theorem insN_rows {js : List Jt} {ls : List Ld} {t : Th} (h : loadsB js ls = true) (ht : thOk t = true) : ∀ {k : Nat}, k ≤ js.length → insN js ls t k = (rowsN js ls k).all (fulB t)
  | 0, _ => rfl
  | k + 1, hk => by
    simp only [insN, rowsN, List.all_append, List.all_cons, List.all_nil, Bool.and_true]
    rw [insN_rows h ht (by omega), inside_rows h ht (by omega)]
theorem ful_E {t : Th} (ht : thOk t = true) : fulB t rowE = true := by
  have hT := thIn_true (thOk_in ht)
  have hr : rowB rowE = true := by decide
  have := (holB_of ht hr).2 (by simp only [rowE]; omega)
  unfold fulB
  rw [ht, hr]
  exact this
theorem stdB_ins {js : List Jt} {ls : List Ld} {t : Th} (h : loadsB js ls = true) (ht : thOk t = true) : stdB js ls t = insN js ls t js.length ∧ (rowsAll js ls).all (fulB t) = insN js ls t js.length := by
  have h8 := arch_len (loads_arch h)
  have hl := rowsAll_len js ls
  have e1 : (rowsAll js ls).all (fulB t) = insN js ls t js.length := by
    rw [rowsAll, List.all_append, insN_rows h ht (Nat.le_refl _)]
    simp [ful_E ht]
  refine ⟨?_, e1⟩
  rw [stdB, rowsA_go h, fulAll, inR_true.2 (by omega), Bool.true_and, e1]

def GoodT (l : List Rw) (t : Th) : Prop := thOk t = true ∧ ∀ r ∈ l, r.a * t.h + r.b * t.v + r.c * t.m ≤ r.d * t.d
theorem mkT_back {T t : Th} (h : mkT T = some t) (hd : 0 < T.d) : thOk t = true ∧ ∃ G : Int, 0 < G ∧ t.h * G = T.h ∧ t.v * G = T.v ∧ t.m * G = T.m ∧ t.d * G = T.d := by
  refine ⟨mkT_ok h, mkG T, ?_, ?_⟩
  · have hz : 0 < gcd4 T := gcd4_pos (by omega)
    unfold mkG
    rw [if_neg (by omega)]
    omega
  · have et : t = mkD T := by
      unfold mkT at h
      cases e : farT T && thOk (mkD T)
      · rw [e] at h; cases h
      · rw [e] at h; exact (Option.some.inj h).symm
    obtain ⟨d1, d2, d3, d4⟩ := gcd4_dvd T
    have dv : ∀ x, (gcd4 T : Int) ∣ x → mkG T ∣ x := fun x hx => by
      unfold mkG
      split
      · exact Int.neg_dvd.2 hx
      · exact hx
    rw [et]
    exact ⟨tdiv_back (dv _ d1), tdiv_back (dv _ d2), tdiv_back (dv _ d3), tdiv_back (dv _ d4)⟩
theorem mix_good {l : List Rw} {a b t : Th} (ha : GoodT l a) (hb : GoodT l b) (h : mixO a b = some t) : GoodT l t := by
  have hA := thIn_true (thOk_in ha.1)
  have hB := thIn_true (thOk_in hb.1)
  have hm : mkT (mixW a b) = some t ∧ a.d ≤ 1000 ∧ b.d ≤ 1000 := by
    unfold mixO at h
    cases e : thOk a && (thOk b && (decide (a.d ≤ 1000) && decide (b.d ≤ 1000)))
    · rw [e] at h; cases h
    · rw [e] at h
      simp only [Bool.and_eq_true, decide_eq_true_eq] at e
      exact ⟨h, e.2.2.1, e.2.2.2⟩
  obtain ⟨hm, d1, d2⟩ := hm
  have q1 := mul_bd (a := a.h) (b := b.d) (m := 1000000000000) (n := 1000) (by omega) (by omega)
  have q2 := mul_bd (a := b.h) (b := a.d) (m := 1000000000000) (n := 1000) (by omega) (by omega)
  have q3 := mul_bd (a := a.v) (b := b.d) (m := 10000000000000) (n := 1000) (by omega) (by omega)
  have q4 := mul_bd (a := b.v) (b := a.d) (m := 10000000000000) (n := 1000) (by omega) (by omega)
  have q5 := mul_bd (a := a.m) (b := b.d) (m := 10000000000000) (n := 1000) (by omega) (by omega)
  have q6 := mul_bd (a := b.m) (b := a.d) (m := 10000000000000) (n := 1000) (by omega) (by omega)
  have q7 := mul_bd (a := 2 * a.d) (b := b.d) (m := 2000) (n := 1000) (by omega) (by omega)
  have e : mixW a b = ⟨a.h * b.d + b.h * a.d, a.v * b.d + b.v * a.d, a.m * b.d + b.m * a.d, 2 * a.d * b.d⟩ := by
    unfold mixW
    rw [w64 (n := a.h * b.d) (by omega), w64 (n := b.h * a.d) (by omega), w64 (n := a.h * b.d + b.h * a.d) (by omega), w64 (n := a.v * b.d) (by omega), w64 (n := b.v * a.d) (by omega), w64 (n := a.v * b.d + b.v * a.d) (by omega),
      w64 (n := a.m * b.d) (by omega), w64 (n := b.m * a.d) (by omega), w64 (n := a.m * b.d + b.m * a.d) (by omega), w64 (n := 2 * a.d) (by omega), w64 (n := 2 * a.d * b.d) (by omega)]
  have hpos : 0 < 2 * a.d * b.d := Int.mul_pos (by omega) (by omega)
  rw [e] at hm
  obtain ⟨h1, G, hG, g1, g2, g3, g4⟩ := mkT_back hm hpos
  simp only at g1 g2 g3 g4
  refine ⟨h1, fun r hr => ?_⟩
  have ra := ha.2 r hr
  have rb := hb.2 r hr
  have ka := Int.mul_le_mul_of_nonneg_right ra (show 0 ≤ b.d by omega)
  have kb := Int.mul_le_mul_of_nonneg_right rb (show 0 ≤ a.d by omega)
  refine Int.not_lt.1 fun hc => ?_
  have hc2 := Int.mul_lt_mul_of_pos_right hc hG
  have e1 : (r.a * t.h + r.b * t.v + r.c * t.m) * G = (r.a * a.h + r.b * a.v + r.c * a.m) * b.d + (r.a * b.h + r.b * b.v + r.c * b.m) * a.d := by
    have : (r.a * t.h + r.b * t.v + r.c * t.m) * G = r.a * (t.h * G) + r.b * (t.v * G) + r.c * (t.m * G) := by grind
    rw [this, g1, g2, g3]
    grind
  have e2 : r.d * t.d * G = r.d * a.d * b.d + r.d * b.d * a.d := by
    have : r.d * t.d * G = r.d * (t.d * G) := by grind
    rw [this, g4]
    grind
  rw [e1, e2] at hc2
  omega
theorem mxK_good {l : List Rw} {c out : List Th} {i : Nat} (hc : ∀ t ∈ c, GoodT l t) (ho : ∀ t ∈ out, GoodT l t) (hi : i < c.length) : ∀ {m : Nat}, m ≤ c.length - (i + 1) → ∀ t ∈ mxK c i out m, GoodT l t
  | 0, _ => ho
  | m + 1, hm => by
    intro t ht
    have ih := mxK_good hc ho hi (m := m) (by omega)
    simp only [mxK] at ht
    cases e : mixO (tat c i) (tat c (i + 1 + m)) with
    | none => rw [e] at ht; exact ih t ht
    | some u =>
      rw [e] at ht
      simp only [addX, List.mem_append, List.mem_singleton] at ht
      rcases ht with ht | rfl
      · exact ih t ht
      · exact mix_good (hc _ (List.mem_of_getElem? (tat_lt hi))) (hc _ (List.mem_of_getElem? (tat_lt (show i + 1 + m < c.length by omega)))) e
theorem mxI_good {l : List Rw} {c : List Th} (hc : ∀ t ∈ c, GoodT l t) : ∀ {i : Nat}, i ≤ c.length → ∀ t ∈ mxI c i, GoodT l t
  | 0, _ => hc
  | i + 1, hi => mxK_good hc (mxI_good hc (i := i) (by omega)) (by omega) (Nat.le_refl _)
theorem bst_mem (lt : Th → Th → Bool) (l : List Th) : ∀ k, k < l.length → bstT lt l k ∈ l
  | 0, h => List.mem_of_getElem? (tat_lt h)
  | k + 1, h => by
    have ih := bst_mem lt l k (by omega)
    simp only [bstT]
    cases lt (tat l (k + 1)) (bstT lt l k)
    · exact ih
    · exact List.mem_of_getElem? (tat_lt h)
theorem cen_good {js : List Jt} {ls : List Ld} (h : loadsB js ls = true) {t : Th} (hc : cenO js ls = some t) : thOk t = true ∧ stdB js ls t = true := by
  obtain ⟨c, ec⟩ : ∃ c, thrL js ls = c := ⟨_, rfl⟩
  have h8 := arch_len (loads_arch h)
  have hl := rowsAll_len js ls
  have h0 : 0 < c.length := by
    cases c with
    | nil => rw [cenO_none ec] at hc; cases hc
    | cons a r => simp
  have hok : ∀ r ∈ rowsAll js ls, rowB r = true := fun r hr => smR_ok (rowsAll_sm h hr)
  have hcor : ∀ u ∈ c, GoodT (rowsAll js ls) u := fun u hu => by
    rw [← ec, thrL, rowsA_go h] at hu
    obtain ⟨⟨p1, p2⟩, _⟩ := corL_P hu
    exact ⟨p1, fun r hr => (holB_of p1 (hok r hr)).1 (List.all_eq_true.1 p2 r hr)⟩
  have hlen := (mxI_len c c.length).1
  rw [cenO_some ec h0] at hc
  have hm := bst_mem (fewB (rowsA js ls)) (mxI c c.length) ((mxI c c.length).length - 1) (by omega)
  rw [Option.some.inj hc] at hm
  obtain ⟨g1, g2⟩ := mxI_good hcor (Nat.le_refl _) t hm
  refine ⟨g1, ?_⟩
  rw [stdB, rowsA_go h, fulAll, inR_true.2 (by omega), Bool.true_and]
  refine List.all_eq_true.2 fun r hr => ?_
  have := (holB_of g1 (hok r hr)).2 (g2 r hr)
  unfold fulB
  rw [g1, hok r hr]
  exact this
theorem cen_stands (js : List Jt) (ls : List Ld) : (cenO js ls).isSome = stnB js ls := by
  obtain ⟨c, ec⟩ : ∃ c, thrL js ls = c := ⟨_, rfl⟩
  cases c with
  | nil => rw [cenO_none ec, stnB, ec]; rfl
  | cons a r => rw [cenO_some ec (by simp), stnB, ec]; rfl
theorem place_ok {js : List Jt} {ls : List Ld} {t : Th} {k : Nat} {x y v : Int} (hm : Mom js ls t k x y v) (e1 : mI js ls t k = x) (e2 : mO js ls t k = y) (h : placB js ls t k = true) :
    0 ≤ plN js ls t k ∧ plN js ls t k ≤ plD js ls t k ∧ plN js ls t k * (y - x) = -x * plD js ls t k := by
  have hb := h
  simp only [placB, insB, e1, e2, Bool.and_eq_true, decide_eq_true_eq, Bool.not_eq_true', Bool.and_eq_false_iff, decide_eq_false_iff_not] at hb
  obtain ⟨⟨_, hx, hy⟩, hne⟩ := hb
  have hg : (plG js ls t k : Int) ≠ 0 := plG_ne (by rw [e1, e2]; omega)
  have hgp : 0 < (plG js ls t k : Int) := by omega
  have d1 : (plG js ls t k : Int) ∣ -x := by rw [← e1]; exact Int.gcd_dvd_left ..
  have d2 : (plG js ls t k : Int) ∣ y - x := by rw [← e1, ← e2]; exact Int.gcd_dvd_right ..
  obtain ⟨p, hp⟩ := d1
  obtain ⟨q, hq⟩ := d2
  obtain ⟨g, eg⟩ : ∃ g : Int, (plG js ls t k : Int) = g := ⟨_, rfl⟩
  have bx := hm.bx
  have bY := hm.bY
  rw [eg] at hp hq hgp hg
  have tp : (-x).tdiv g = p := by rw [hp]; exact Int.mul_tdiv_cancel_left _ hg
  have tq : (y - x).tdiv g = q := by rw [hq]; exact Int.mul_tdiv_cancel_left _ hg
  have p0 : 0 ≤ p := by
    refine Int.not_lt.1 fun hc => ?_
    have := Int.mul_neg_of_pos_of_neg hgp hc
    omega
  have pq : p ≤ q := by
    refine Int.not_lt.1 fun hc => ?_
    have := Int.mul_lt_mul_of_pos_left hc hgp
    omega
  have q1 : q ≤ 2000000000000000 := by
    have := Int.mul_le_mul_of_nonneg_right (show 1 ≤ g by omega) (show 0 ≤ q by omega)
    omega
  have eN : plN js ls t k = p := by
    rw [plN, h, e1, eg, tp, cond_true, w64 (by omega)]
  have eD : plD js ls t k = q := by
    rw [plD, h, e1, e2, eg, tq, cond_true, w64 (by omega)]
  rw [eN, eD]
  refine ⟨p0, pq, ?_⟩
  rw [hq, hp]
  grind
end Go.Proofs.YtkieepmkcaipaaaGreat
