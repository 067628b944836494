/- CentralThrust, both ways. -/
import Derived.Test.YtkieepmkcaipaaaGreatYG10
import Derived.Test.YtkieepmkcaipaaaGreatYABo
namespace Go.Proofs.YtkieepmkcaipaaaGreat
open Go.Eng
set_option maxRecDepth 100000
attribute [local irreducible] QV TV WL HW W CallOk CallOkA Weak
attribute [local irreducible] CallOkE

def bK (L i : Nat) : Nat → Nat
  | 0 => 0
  | n + 1 => bK L i n + (L - (i + 1 + n + 1))
def bI (L : Nat) : Nat → Nat
  | 0 => 0
  | i + 1 => bI L i + bK L i (L - (i + 1))
theorem addO_le (l : List Rw) (out : List Th) (o : Option Th) : (addO l out o).length ≤ out.length + 1 := by
  cases o with
  | none => simp [addO]
  | some t => simp only [addO]; cases hasT out t <;> cases l.all (holB t) <;> simp
theorem cM_le (l : List Rw) (i k : Nat) (out : List Th) : ∀ n, (cM l i k out n).length ≤ out.length + n
  | 0 => by simp [cM]
  | n + 1 => by
    have h1 := cM_le l i k out n
    have h2 := addO_le l (cM l i k out n) (slvA l i k (k + 1 + n))
    simp only [cM]
    omega
theorem cK_le (l : List Rw) (i : Nat) (out : List Th) : ∀ n, (cK l i out n).length ≤ out.length + bK l.length i n
  | 0 => by simp [cK]
  | n + 1 => by
    have h1 := cK_le l i out n
    have h2 := cM_le l i (i + 1 + n) (cK l i out n) (l.length - (i + 1 + n + 1))
    simp only [cK, bK]
    omega
theorem cI_le (l : List Rw) : ∀ n, (cI l n).length ≤ bI l.length n
  | 0 => by simp [cI]
  | n + 1 => by
    have h1 := cI_le l n
    have h2 := cK_le l n (cI l n) (l.length - (n + 1))
    simp only [cI, bI]
    omega
theorem bI_max : ∀ L, L < 18 → bI L L ≤ 1000 := by decide
theorem rowsA_or' (js : List Jt) (ls : List Ld) : rowsA js ls = [] ∨ (loadsB js ls = true ∧ (rowsAll js ls).all rowB = true) := by
  unfold rowsA
  cases h1 : loadsB js ls
  · exact .inl rfl
  · cases h2 : (rowsAll js ls).all rowB
    · exact .inl rfl
    · exact .inr ⟨rfl, rfl⟩
theorem thrL_le (js : List Jt) (ls : List Ld) : (thrL js ls).length ≤ 1000 := by
  unfold thrL
  rcases rowsA_or' js ls with h | h
  · rw [h]
    simp only [corL, List.all_nil, Bool.true_and, List.length_nil]
    cases inR 0 3 20 <;> simp [cI]
  · have h8 := arch_len (loads_arch h.1)
    have e : rowsA js ls = rowsAll js ls := by unfold rowsA; rw [h.1, h.2]; rfl
    have hl := rowsAll_len js ls
    rw [e]
    unfold corL
    cases (rowsAll js ls).all rowB && inR (rowsAll js ls).length 3 20
    · simp
    · have := cI_le (rowsAll js ls) (rowsAll js ls).length
      have h2 := bI_max (rowsAll js ls).length (by omega)
      simp only [cond_true]
      omega
def addX (out : List Th) : Option Th → List Th
  | none => out
  | some t => out ++ [t]
def mxK (c : List Th) (i : Nat) (out : List Th) : Nat → List Th
  | 0 => out
  | m + 1 => addX (mxK c i out m) (mixO (tat c i) (tat c (i + 1 + m)))
def mxI (c : List Th) : Nat → List Th
  | 0 => c
  | i + 1 => mxK c i (mxI c i) (c.length - (i + 1))
theorem addX_len (out : List Th) (o : Option Th) : out.length ≤ (addX out o).length ∧ (addX out o).length ≤ out.length + 1 := by
  cases o <;> simp [addX]
theorem mxK_len (c : List Th) (i : Nat) (out : List Th) : ∀ m, out.length ≤ (mxK c i out m).length ∧ (mxK c i out m).length ≤ out.length + m
  | 0 => by simp [mxK]
  | m + 1 => by
    have h1 := mxK_len c i out m
    have h2 := addX_len (mxK c i out m) (mixO (tat c i) (tat c (i + 1 + m)))
    simp only [mxK]
    omega
theorem mxI_len (c : List Th) : ∀ i, c.length ≤ (mxI c i).length ∧ (mxI c i).length ≤ c.length + i * c.length
  | 0 => by simp [mxI]
  | i + 1 => by
    have h1 := mxI_len c i
    have h2 := mxK_len c i (mxI c i) (c.length - (i + 1))
    simp only [mxI]
    rw [Nat.add_mul]
    omega
theorem mx_small {c : List Th} (hc : c.length ≤ 1000) {i m : Nat} (hi : i < c.length) (hm : m ≤ c.length) : (mxK c i (mxI c i) m).length + 1 ≤ 1048576 := by
  have h1 := (mxI_len c i).2
  have h2 := (mxK_len c i (mxI c i) m).2
  have h3 : i * c.length ≤ 1000 * 1000 := Nat.mul_le_mul (by omega) hc
  omega
theorem mx_all {c : List Th} (hc : c.length ≤ 1000) : (mxI c c.length).length ≤ 1048576 := by
  have h1 := (mxI_len c c.length).2
  have h3 : c.length * c.length ≤ 1000 * 1000 := Nat.mul_le_mul hc hc
  omega
def fewB (rs : List Rw) (x y : Th) : Bool := decide ((jstL x rs rs.length).length < (jstL y rs rs.length).length)
def cenO (js : List Jt) (ls : List Ld) : Option Th :=
  match thrL js ls with
  | [] => none
  | c => some (bstT (fewB (rowsA js ls)) (mxI c c.length) ((mxI c c.length).length - 1))
theorem cenO_some {js : List Jt} {ls : List Ld} {c : List Th} (h : thrL js ls = c) (h0 : 0 < c.length) : cenO js ls = some (bstT (fewB (rowsA js ls)) (mxI c c.length) ((mxI c c.length).length - 1)) := by
  unfold cenO
  rw [h]
  cases c with
  | nil => simp at h0
  | cons t r => rfl
theorem cenO_none {js : List Jt} {ls : List Ld} (h : thrL js ls = []) : cenO js ls = none := by
  unfold cenO
  rw [h]
theorem t_cells (t : Th) : ∀ x ∈ [t.row].flatten, isCell x = true := by
  intro x hx
  simp only [List.flatten_cons, List.flatten_nil, List.append_nil, Th.row, List.mem_cons, List.not_mem_nil, or_false] at hx
  rcases hx with rfl | rfl | rfl | rfl <;> rfl
theorem t_lens (t : Th) : ∀ r ∈ [t.row], r.length = 4 := by
  intro r hr
  simp only [List.mem_singleton] at hr
  subst hr; rfl
theorem tL_cells (l : List Th) : ∀ x ∈ (l.map Th.row).flatten, isCell x = true := by
  intro x hx
  obtain ⟨r, hr, hx⟩ := List.mem_flatten.1 hx
  obtain ⟨t, _, rfl⟩ := List.mem_map.1 hr
  simp only [Th.row, List.mem_cons, List.not_mem_nil, or_false] at hx
  rcases hx with rfl | rfl | rfl | rfl <;> rfl
theorem tL_lens (l : List Th) : ∀ r ∈ l.map Th.row, r.length = 4 := by
  intro r hr
  obtain ⟨t, _, rfl⟩ := List.mem_map.1 hr
  rfl
theorem t_app {out : List Th} {t : Th} : out.map Th.row ++ [t.row] = (out ++ [t]).map Th.row := by simp
theorem few1_ok (rs : List Rw) (hn : rs.length ≤ 1048576) (x y : Th) : CallOkE Tryz.prog 101 ([x.av, y.av] ++ [.eptr [slRw rs]]) (fun r => r = vb (fewB rs x y)) := by
  have h1 := implJustMetBy_ok x rs hn
  have h2 := implJustMetBy_ok y rs hn
  refine callOkE Tryz.func101 Tryz.ntmps101 Tryz.results101 rfl rfl rfl fun B w0 M I0 V0 => ?_
  have c4 : abin .lss .i64 ((jstL x rs rs.length).length : Int) ((jstL y rs rs.length).length : Int) = some (.bool (fewB rs x y)) := by simp [abin, fewB]
  (repeat (first | refine WL_nil ?_ | (apply wl0 (hd := rfl); (first | exact qv9); (exact gy0)) | (apply wlb (hd := rfl); exact qbx; (exact gy0); rfl) | refine wln ⟨_, rfl, rfl⟩ rfl ?_ | refine wlnu ⟨_, rfl, rfl⟩ rfl ?_ | refine wst rfl rfl rfl List.not_mem_nil rfl rfl rfl rfl rfl rfl ?_ | refine W_condT rfl ?_ | refine W_condF rfl ?_ | refine W_region ?_ | refine wN rfl ?_))
  refine wdraw 9 (by kernel_rfl) (by kernel_rfl) (by kernel_rfl) rfl ?_
  (repeat (first | refine HW_nil ?_ | (apply hw0 (hd := rfl); (first | exact QV_bin rfl rfl c4 | exact qv9 | exact q_callA (h1) | exact q_callA (h2)); (exact gy0)) | (apply hwb (hd := rfl); exact qbx; (exact gy0); rfl) | refine hwn ⟨_, rfl, rfl⟩ rfl ?_ | refine hwnu ⟨_, rfl, rfl⟩ rfl ?_))
  (repeat (first | refine WL_nil ?_ | (apply wl0 (hd := rfl); (first | exact qv9); (exact gy0)) | (apply wlb (hd := rfl); exact qbx; (exact gy0); rfl) | refine wln ⟨_, rfl, rfl⟩ rfl ?_ | refine wlnu ⟨_, rfl, rfl⟩ rfl ?_ | refine wst rfl rfl rfl List.not_mem_nil rfl rfl rfl rfl rfl rfl ?_ | refine W_condT rfl ?_ | refine W_condF rfl ?_ | refine W_region ?_ | refine wN rfl ?_))
  refine Exists.intro _ ⟨Weak.refl _, Exists.intro _ ⟨resA_tmp rfl rfl, ?_, rfl⟩⟩
  rfl
theorem implCentralThrust_ok (js : List Jt) (ls : List Ld) (hj : js.length ≤ 1048576) (hn : ls.length ≤ 1048576) : CallOkA Tryz.prog 55 [.agg [slJt js], slLd ls] (fun r => r = thO (cenO js ls)) := by
  have h1 := implThrustsOf_ok js ls hj hn
  have h2 := implRowsOf_ok js ls hj hn
  have hrl := rowsA_len js ls
  have hc := thrL_le js ls
  refine callOkX Tryz.func55 Tryz.ntmps55 Tryz.results55 rfl rfl rfl fun B w0 M I0 V0 hal => ?_
  obtain ⟨c, ec⟩ : ∃ c, thrL js ls = c := ⟨_, rfl⟩
  rw [ec] at h1 hc
  by_cases h0 : 0 < c.length
  · rw [cenO_some ec h0]
    obtain ⟨rs, ers⟩ : ∃ rs, rowsA js ls = rs := ⟨_, rfl⟩
    rw [ers] at h2 hrl ⊢
    have c0 : abin .eql .i64 (c.length : Int) 0 = some (.bool false) := by
        simp [abin]
        intro h9
        rw [h9] at h0
        simp at h0
    have hc1 : (c.map Th.row).length ≤ 1048576 := by simp; omega
    (repeat (first | refine WL_nil ?_ | (apply wl0 (hd := rfl); (first | exact QV_bin rfl rfl c0 | exact qv9 | exact q_callAX hal (h1)); (exact gy0)) | (apply wlb (hd := rfl); exact qbx; (exact gy0); rfl) | refine wln ⟨_, rfl, rfl⟩ rfl ?_ | refine wlnu ⟨_, rfl, rfl⟩ rfl ?_ | refine wst rfl rfl rfl List.not_mem_nil rfl rfl rfl rfl rfl rfl ?_ | refine wapp0 (rows2 := c.map Th.row) rfl rfl rfl (tL_cells _) (tL_lens _) hc1 rfl rfl rfl rfl rfl ?_ | refine W_condT rfl ?_ | refine W_condF rfl ?_ | refine W_region ?_ | refine wN rfl ?_))
    refine W_loop (fun n s => ∃ i : Nat, i ≤ c.length ∧ n = c.length - i ∧ s = ⟨[(1, slLd ls), (2, .ptr 2 0), (4, .ptr 4 0), (6, slTh c), (7, .own 22 60 4 ((mxI c i).map Th.row)), (24, vi c.length), (25, vi i)], [(4, thZ.row), (2, [slJt js])], [22]⟩) ⟨_, _, ⟨0, by omega, rfl, rfl⟩, wkA⟩ ?_
    rintro n s ⟨i, hi, rfl, rfl⟩
    by_cases hlt : i < c.length
    · have c1 : abin .lss .i64 (i : Int) (c.length : Int) = some (.bool true) := by simp [abin]; omega
      (repeat (first | refine WL_nil ?_ | (apply wl0 (hd := rfl); (first | exact QV_bin rfl rfl c1 | exact qv9); (exact gy0)) | (apply wlb (hd := rfl); exact qbx; (exact gy0); rfl) | refine wln ⟨_, rfl, rfl⟩ rfl ?_ | refine wlnu ⟨_, rfl, rfl⟩ rfl ?_ | refine wst rfl rfl rfl List.not_mem_nil rfl rfl rfl rfl rfl rfl ?_ | refine W_condT rfl ?_ | refine W_condF rfl ?_ | refine W_region ?_ | refine wN rfl ?_))
      refine W_loop (fun n s => ∃ m : Nat, m ≤ c.length - (i + 1) ∧ n = c.length - (i + 1) - m ∧ s = ⟨[(1, slLd ls), (2, .ptr 2 0), (4, .ptr 4 0), (6, slTh c), (7, .own 22 60 4 ((mxK c i (mxI c i) m).map Th.row)), (8, vi i), (9, vi (i + 1 + m : Nat)), (24, vi c.length), (25, vi i)], [(4, thZ.row), (2, [slJt js])], [22]⟩) ⟨_, _, ⟨0, by omega, rfl, rfl⟩, wkA⟩ ?_
      rintro n s ⟨m, hm, rfl, rfl⟩
      obtain ⟨out, hout⟩ : ∃ out, mxK c i (mxI c i) m = out := ⟨_, rfl⟩
      have hsm := mx_small hc hlt (m := m) (by omega)
      have hstep : mxK c i (mxI c i) (m + 1) = addX out (mixO (tat c i) (tat c (i + 1 + m))) := by rw [← hout]; rfl
      rw [hout] at hsm ⊢
      by_cases hml : m < c.length - (i + 1)
      · have cm : abin .lss .i64 ((i + 1 + m : Nat) : Int) (c.length : Int) = some (.bool true) := by simp [abin]; omega
        have p1 := tat_lt hlt
        have p2 := tat_lt (show i + 1 + m < c.length by omega)
        have hx := implMixThrusts_ok (tat c i) (tat c (i + 1 + m))
        cases e1 : mixO (tat c i) (tat c (i + 1 + m)) with
        | none =>
          rw [e1, thO_none] at hx
          rw [e1] at hstep
          (repeat (first | refine WL_nil ?_ | (apply wl0 (hd := rfl); (first | exact QV_bin rfl rfl cm | exact qv9); (exact gy0)) | (apply wlb (hd := rfl); exact qbx; (exact gy0); rfl) | refine wln ⟨_, rfl, rfl⟩ rfl ?_ | refine wlnu ⟨_, rfl, rfl⟩ rfl ?_ | refine wst rfl rfl rfl List.not_mem_nil rfl rfl rfl rfl rfl rfl ?_ | refine W_condT rfl ?_ | refine W_condF rfl ?_ | refine W_region ?_ | refine wN rfl ?_))
          refine wdraw 15 (by kernel_rfl) (by kernel_rfl) (by kernel_rfl) rfl ?_
          (repeat (first | refine HW_nil ?_ | (apply hw0 (hd := rfl); (first | exact qv9 | exact q_callA (hx) | exact QV_indexAddr rfl rfl rfl rfl (row_at p1) | exact QV_indexAddr rfl rfl rfl rfl (row_at p2)); (exact gy0)) | (apply hwb (hd := rfl); (first | exact q_box rfl rfl rfl | exact q_allocT rfl); (exact gy0); rfl) | refine hwn ⟨_, rfl, rfl⟩ rfl ?_ | refine hwnu ⟨_, rfl, rfl⟩ rfl ?_ | refine hwi rfl rfl List.not_mem_nil rfl rfl rfl rfl rfl ?_))
          (repeat (first | refine WL_nil ?_ | (apply wl0 (hd := rfl); (first | exact qv9); (exact gy0)) | (apply wlb (hd := rfl); exact qbx; (exact gy0); rfl) | refine wln ⟨_, rfl, rfl⟩ rfl ?_ | refine wlnu ⟨_, rfl, rfl⟩ rfl ?_ | refine wst rfl rfl rfl List.not_mem_nil rfl rfl rfl rfl rfl rfl ?_ | refine W_condT rfl ?_ | refine W_condF rfl ?_ | refine W_region ?_ | refine wN rfl ?_))
          rw [show out = mxK c i (mxI c i) (m + 1) from hstep.symm]
          refine Exists.intro _ (Exists.intro _ ⟨?_, ⟨m + 1, by omega, rfl, rfl⟩, wkA⟩)
          omega
        | some t =>
          rw [e1, thO_some] at hx
          rw [e1] at hstep
          have ha : (out.map Th.row).length + [t.row].length ≤ 1048576 := by simp; omega
          (repeat (first | refine WL_nil ?_ | (apply wl0 (hd := rfl); (first | exact QV_bin rfl rfl cm | exact qv9); (exact gy0)) | (apply wlb (hd := rfl); exact qbx; (exact gy0); rfl) | refine wln ⟨_, rfl, rfl⟩ rfl ?_ | refine wlnu ⟨_, rfl, rfl⟩ rfl ?_ | refine wst rfl rfl rfl List.not_mem_nil rfl rfl rfl rfl rfl rfl ?_ | refine W_condT rfl ?_ | refine W_condF rfl ?_ | refine W_region ?_ | refine wN rfl ?_))
          refine wdraw 15 (by kernel_rfl) (by kernel_rfl) (by kernel_rfl) rfl ?_
          (repeat (first | refine HW_nil ?_ | (apply hw0 (hd := rfl); (first | exact qv9 | exact q_callA (hx) | exact QV_indexAddr rfl rfl rfl rfl (row_at p1) | exact QV_indexAddr rfl rfl rfl rfl (row_at p2)); (exact gy0)) | (apply hwb (hd := rfl); (first | exact q_box rfl rfl rfl | exact q_allocT rfl); (exact gy0); rfl) | refine hwn ⟨_, rfl, rfl⟩ rfl ?_ | refine hwnu ⟨_, rfl, rfl⟩ rfl ?_ | refine hwi rfl rfl List.not_mem_nil rfl rfl rfl rfl rfl ?_))
          (repeat (first | refine WL_nil ?_ | (apply wl0 (hd := rfl); (first | exact qv9); (exact gy0)) | (apply wlb (hd := rfl); exact qbx; (exact gy0); rfl) | refine wln ⟨_, rfl, rfl⟩ rfl ?_ | refine wlnu ⟨_, rfl, rfl⟩ rfl ?_ | (apply wln1 (hd := rfl); exact q_buildSlice 51 rfl rfl rfl rfl; (exact gy0); rfl) | refine wst rfl rfl rfl List.not_mem_nil rfl rfl rfl rfl rfl rfl ?_ | refine wappE rfl rfl rfl (t_cells t) (t_lens t) ha rfl rfl t_app rfl rfl ?_ | refine W_condT rfl ?_ | refine W_condF rfl ?_ | refine W_region ?_ | refine wN rfl ?_))
          rw [show out ++ [t] = mxK c i (mxI c i) (m + 1) from hstep.symm]
          refine Exists.intro _ (Exists.intro _ ⟨?_, ⟨m + 1, by omega, rfl, rfl⟩, wkA⟩)
          omega
      · have cm : abin .lss .i64 ((i + 1 + m : Nat) : Int) (c.length : Int) = some (.bool false) := by simp [abin]; omega
        have hm' : m = c.length - (i + 1) := by omega
        (repeat (first | refine WL_nil ?_ | (apply wl0 (hd := rfl); (first | exact QV_bin rfl rfl cm | exact qv9); (exact gy0)) | (apply wlb (hd := rfl); exact qbx; (exact gy0); rfl) | refine wln ⟨_, rfl, rfl⟩ rfl ?_ | refine wlnu ⟨_, rfl, rfl⟩ rfl ?_ | refine wst rfl rfl rfl List.not_mem_nil rfl rfl rfl rfl rfl rfl ?_ | refine W_condT rfl ?_ | refine W_condF rfl ?_ | refine W_region ?_ | refine wN rfl ?_))
        rw [show out = mxI c (i + 1) by rw [← hout, hm']; rfl]
        refine Exists.intro _ (Exists.intro _ ⟨?_, ⟨i + 1, by omega, rfl, rfl⟩, wkA⟩)
        omega
    · have c1 : abin .lss .i64 (i : Int) (c.length : Int) = some (.bool false) := by simp [abin]; omega
      have hi' : i = c.length := by omega
      rw [hi']
      rw [hi'] at c1
      obtain ⟨l, hl⟩ : ∃ l, mxI c c.length = l := ⟨_, rfl⟩
      have hlen := mxI_len c c.length
      have hmx := mx_all hc
      rw [hl] at hlen hmx ⊢
      have hb := bestOf1_ok 101 [slRw rs] (fewB rs) (few1_ok rs (by omega)) l (by omega) (by omega)
      (repeat (first | refine WL_nil ?_ | (apply wl0 (hd := rfl); (first | exact QV_bin rfl rfl c1 | exact qv9 | exact q_callA (h2) | exact QV_callE0 hb rfl (LeE.own (LeE.fn (LeE.ptr rfl rfl LeE.nil) LeE.nil)) rfl); (exact gy0)) | (apply wlb (hd := rfl); exact qbx; (exact gy0); rfl) | refine wln ⟨_, rfl, rfl⟩ rfl ?_ | refine wlnu ⟨_, rfl, rfl⟩ rfl ?_ | refine wst rfl rfl rfl List.not_mem_nil rfl rfl rfl rfl rfl rfl ?_ | refine W_condT rfl ?_ | refine W_condF rfl ?_ | refine W_region ?_ | refine wN rfl ?_))
      refine Exists.intro _ ⟨Weak.refl _, Exists.intro _ ⟨resA_cell rfl rfl rfl (resA_tmp rfl rfl), ?_, rfl⟩⟩
      rfl
  · have hc0 : c = [] := List.length_eq_zero_iff.1 (by omega)
    subst hc0
    rw [cenO_none ec]
    (repeat (first | refine WL_nil ?_ | (apply wl0 (hd := rfl); (first | exact qv9 | exact q_callAX hal (h1)); (exact gy0)) | (apply wlb (hd := rfl); exact qbx; (exact gy0); rfl) | refine wln ⟨_, rfl, rfl⟩ rfl ?_ | refine wlnu ⟨_, rfl, rfl⟩ rfl ?_ | refine wst rfl rfl rfl List.not_mem_nil rfl rfl rfl rfl rfl rfl ?_ | refine W_condT rfl ?_ | refine W_condF rfl ?_ | refine W_region ?_ | refine wN rfl ?_))
    refine Exists.intro _ ⟨Weak.refl _, Exists.intro _ ⟨resA_cell rfl rfl rfl (resA_tmp rfl rfl), ?_, rfl⟩⟩
    rfl
end Go.Proofs.YtkieepmkcaipaaaGreat
