/- Loads: LoadsOk, the weights and moments left of a joint, both ways. -/
import Derived.Test.YtpcahgedkmgllaaGreatYG3
import Derived.Test.YtpcahgedkmgllaaGreatZ5
set_option maxHeartbeats 4000000
namespace Go.Proofs.YtpcahgedkmgllaaGreat
open Go.Eng
set_option maxRecDepth 100000
attribute [local irreducible] QV TV WL HW W CallOk Weak

structure Ld where
  s : Int
  w : Int
  x : Int
  deriving DecidableEq
abbrev Ld.row (l : Ld) : List AV := [vi l.s, vi l.w, vi l.x]
abbrev Ld.av (l : Ld) : AV := .agg [vi l.s, vi l.w, vi l.x]
abbrev slLd (l : List Ld) : AV := .sl 3 (l.map Ld.row)
def lat (l : List Ld) (i : Nat) : Ld := l.getD i ⟨0, 0, 0⟩
theorem lat_lt {l : List Ld} {i : Nat} (h : i < l.length) : l[i]? = some (lat l i) := by
  simp [lat, h]
def ldOk (n : Int) (l : Ld) : Bool := inR l.s 0 (n - 2) && (inR l.w 0 10000 && inR l.x (-60) 60)
def loadsB (js : List Jt) (ls : List Ld) : Bool := archB js && (decide (ls.length ≤ 6) && ls.all (ldOk js.length))
theorem loads_arch {js : List Jt} {ls : List Ld} (h : loadsB js ls = true) : archB js = true := by
  simp only [loadsB, Bool.and_eq_true] at h; exact h.1
theorem loads_six {js : List Jt} {ls : List Ld} (h : loadsB js ls = true) : ls.length ≤ 6 := by
  simp only [loadsB, Bool.and_eq_true, decide_eq_true_eq] at h; exact h.2.1
theorem loads_at {js : List Jt} {ls : List Ld} {i : Nat} (h : loadsB js ls = true) (hi : i < ls.length) : (0 ≤ (lat ls i).s ∧ (lat ls i).s ≤ js.length - 2) ∧ (0 ≤ (lat ls i).w ∧ (lat ls i).w ≤ 10000) ∧ -60 ≤ (lat ls i).x ∧ (lat ls i).x ≤ 60 := by
  simp only [loadsB, Bool.and_eq_true, List.all_eq_true] at h
  have := h.2.2 _ (List.mem_of_getElem? (lat_lt hi))
  simpa [ldOk, inR_true] using this

theorem loadsOk_ok (js : List Jt) (ls : List Ld) (hj : js.length ≤ 1048576) (hn : ls.length ≤ 1048576) : CallOk Tryz.prog 6 [.agg [slJt js], slLd ls] (fun r => r = vb (loadsB js ls)) := by
  have ha := archOk_ok js hj
  refine callOk Tryz.func6 Tryz.ntmps6 Tryz.results6 rfl rfl rfl fun B w0 M I0 V0 => ?_
  (repeat (first | refine WL_nil ?_ | refine zq0 qv9 ?_ | refine zq1 ?_ | refine zq2 ?_ | refine zq3 ?_ | refine zq4 ?_ | refine zq5 ?_ | refine zq6 ?_ | refine wN rfl ?_))
  refine W_loop (fun n s => ∃ k : Nat, k ≤ ls.length ∧ n = ls.length - k ∧ (ls.take k).all (ldOk js.length) = true ∧ s = ⟨[(1, slLd ls), (2, .ptr 2 0), (5, vi k)], [(2, [slJt js])], []⟩) ⟨_, _, ⟨0, by omega, rfl, rfl, rfl⟩, wkA⟩ ?_
  rintro n s ⟨k, hk, rfl, hall, rfl⟩
  by_cases hlt : k < ls.length
  · have hp := lat_lt hlt
    have h1 := l01In_ok (lat ls k).s 0 (js.length - 2)
    have h2 := l01In_ok (lat ls k).w 0 10000
    have h3 := l01In_ok (lat ls k).x (-60) 60
    have bad : ldOk js.length (lat ls k) = false → loadsB js ls = false := fun h => by simp only [loadsB, all_at_false hp h, Bool.and_false]
    (repeat (first | refine WL_nil ?_ | refine zq0 qv9 ?_ | refine zq1 ?_ | refine zq2 ?_ | refine zq3 ?_ | refine zq4 ?_ | refine zq5 ?_ | refine zq6 ?_ | refine wN rfl ?_))
    (refine W_cond rfl (fun hc => ?_) (fun hc => ?_))
    · cases e1 : inR (lat ls k).s 0 (js.length - 2)
      · rw [e1] at h1
        (repeat (first | refine WL_nil ?_ | refine zq0 (by first | exact qv9 | exact q_callA (h1) | exact QV_indexAddr rfl rfl rfl rfl (row_at hp)) ?_ | refine zq1 ?_ | refine zq2 ?_ | refine zq3 ?_ | refine zq4 ?_ | refine zq5 ?_ | refine zq6 ?_ | refine wN rfl ?_))
        refine Exists.intro _ ⟨Weak.refl _, Exists.intro _ ⟨resA_tmp rfl rfl, ?_, rfl⟩⟩
        exact vb_eq (bad (by simp only [ldOk, e1, Bool.false_and])).symm
      · rw [e1] at h1
        cases e2 : inR (lat ls k).w 0 10000
        · rw [e2] at h2
          (repeat (first | refine WL_nil ?_ | refine zq0 (by first | exact qv9 | exact q_callA (h1) | exact q_callA (h2) | exact QV_indexAddr rfl rfl rfl rfl (row_at hp)) ?_ | refine zq1 ?_ | refine zq2 ?_ | refine zq3 ?_ | refine zq4 ?_ | refine zq5 ?_ | refine zq6 ?_ | refine wN rfl ?_))
          refine Exists.intro _ ⟨Weak.refl _, Exists.intro _ ⟨resA_tmp rfl rfl, ?_, rfl⟩⟩
          exact vb_eq (bad (by simp only [ldOk, e1, e2, Bool.false_and, Bool.and_false])).symm
        · rw [e2] at h2
          cases e3 : inR (lat ls k).x (-60) 60
          · rw [e3] at h3
            (repeat (first | refine WL_nil ?_ | refine zq0 (by first | exact qv9 | exact q_callA (h1) | exact q_callA (h2) | exact q_callA (h3) | exact QV_indexAddr rfl rfl rfl rfl (row_at hp)) ?_ | refine zq1 ?_ | refine zq2 ?_ | refine zq3 ?_ | refine zq4 ?_ | refine zq5 ?_ | refine zq6 ?_ | refine wN rfl ?_))
            refine Exists.intro _ ⟨Weak.refl _, Exists.intro _ ⟨resA_tmp rfl rfl, ?_, rfl⟩⟩
            exact vb_eq (bad (by simp only [ldOk, e1, e2, e3, Bool.and_false])).symm
          · rw [e3] at h3
            (repeat (first | refine WL_nil ?_ | refine zq0 (by first | exact qv9 | exact q_callA (h1) | exact q_callA (h2) | exact q_callA (h3) | exact QV_indexAddr rfl rfl rfl rfl (row_at hp)) ?_ | refine zq1 ?_ | refine zq2 ?_ | refine zq3 ?_ | refine zq4 ?_ | refine zq5 ?_ | refine zq6 ?_ | refine wN rfl ?_))
            refine Exists.intro _ (Exists.intro _ ⟨?_, ⟨k + 1, by omega, rfl, by rw [all_take_succ hp, hall]; simp only [ldOk, e1, e2, e3, Bool.and_self], rfl⟩, wkA⟩)
            omega
    · simp at hc; omega
  · (repeat (first | refine WL_nil ?_ | refine zq0 qv9 ?_ | refine zq1 ?_ | refine zq2 ?_ | refine zq3 ?_ | refine zq4 ?_ | refine zq5 ?_ | refine zq6 ?_ | refine wN rfl ?_))
    (refine W_cond rfl (fun hc => ?_) (fun hc => ?_))
    · simp at hc; omega
    · have hk' : k = ls.length := by omega
      subst hk'
      rw [List.take_length] at hall
      cases hst : archB js
      · rw [hst] at ha
        (repeat (first | refine WL_nil ?_ | refine zq0 (by first | exact qv9 | exact q_callA (ha)) ?_ | refine zq1 ?_ | refine zq2 ?_ | refine zq3 ?_ | refine zq4 ?_ | refine zq5 ?_ | refine zq6 ?_ | refine wN rfl ?_))
        refine Exists.intro _ ⟨Weak.refl _, Exists.intro _ ⟨resA_tmp rfl rfl, ?_, rfl⟩⟩
        exact vb_eq (by simp [loadsB, hst])
      · rw [hst] at ha
        (repeat (first | refine WL_nil ?_ | refine zq0 (by first | exact qv9 | exact q_callA (ha)) ?_ | refine zq1 ?_ | refine zq2 ?_ | refine zq3 ?_ | refine zq4 ?_ | refine zq5 ?_ | refine zq6 ?_ | refine wN rfl ?_))
        refine Exists.intro _ ⟨Weak.refl _, Exists.intro _ ⟨resA_tmp rfl rfl, ?_, rfl⟩⟩
        exact vb_eq (by simp [loadsB, hst, hall]; omega)
theorem implLoadsOk_ok (js : List Jt) (ls : List Ld) (hj : js.length ≤ 1048576) (hn : ls.length ≤ 1048576) : CallOk Tryz.prog 20 [.agg [slJt js], slLd ls] (fun r => r = vb (loadsB js ls)) := by
  have ha := implArchOk_ok js hj
  refine callOk Tryz.func20 Tryz.ntmps20 Tryz.results20 rfl rfl rfl fun B w0 M I0 V0 => ?_
  cases hst : archB js
  · rw [hst] at ha
    (repeat (first | refine WL_nil ?_ | refine zq0 (by first | exact qv9 | exact q_callA (ha)) ?_ | refine zq1 ?_ | refine zq2 ?_ | refine zq3 ?_ | refine zq4 ?_ | refine zq5 ?_ | refine zq6 ?_ | refine wN rfl ?_))
    refine Exists.intro _ ⟨Weak.refl _, Exists.intro _ ⟨resA_tmp rfl rfl, ?_, rfl⟩⟩
    exact vb_eq (by simp [loadsB, hst])
  · rw [hst] at ha
    (repeat (first | refine WL_nil ?_ | refine zq0 (by first | exact qv9 | exact q_callA (ha)) ?_ | refine zq1 ?_ | refine zq2 ?_ | refine zq3 ?_ | refine zq4 ?_ | refine zq5 ?_ | refine zq6 ?_ | refine wN rfl ?_))
    (refine W_cond rfl (fun hc => ?_) (fun hc => ?_))
    · (repeat (first | refine WL_nil ?_ | refine zq0 qv9 ?_ | refine zq1 ?_ | refine zq2 ?_ | refine zq3 ?_ | refine zq4 ?_ | refine zq5 ?_ | refine zq6 ?_ | refine wN rfl ?_))
      refine Exists.intro _ ⟨Weak.refl _, Exists.intro _ ⟨resA_tmp rfl rfl, ?_, rfl⟩⟩
      exact vb_eq (by simp at hc; simp [loadsB, show ¬ ls.length ≤ 6 by omega])
    · have h6 : ls.length ≤ 6 := by simp at hc; omega
      (repeat (first | refine WL_nil ?_ | refine zq0 qv9 ?_ | refine zq1 ?_ | refine zq2 ?_ | refine zq3 ?_ | refine zq4 ?_ | refine zq5 ?_ | refine zq6 ?_ | refine wN rfl ?_))
      refine W_loop (fun n s => ∃ k : Nat, k ≤ ls.length ∧ n = ls.length - k ∧ (ls.take k).all (ldOk js.length) = true ∧ s = ⟨[(2, .ptr 2 0), (15, slLd ls), (16, vi ls.length), (17, vi k)], [(2, [slJt js])], []⟩) ⟨_, _, ⟨0, by omega, rfl, rfl, rfl⟩, wkA⟩ ?_
      rintro n s ⟨k, hk, rfl, hall, rfl⟩
      by_cases hlt : k < ls.length
      · have hp := lat_lt hlt
        have h1 := within_ok (lat ls k).s 0 (js.length - 2)
        have h2 := within_ok (lat ls k).w 0 10000
        have h3 := isPlace_ok (lat ls k).x
        have bad : ldOk js.length (lat ls k) = false → loadsB js ls = false := fun h => by simp only [loadsB, all_at_false hp h, Bool.and_false]
        (repeat (first | refine WL_nil ?_ | refine zq0 qv9 ?_ | refine zq1 ?_ | refine zq2 ?_ | refine zq3 ?_ | refine zq4 ?_ | refine zq5 ?_ | refine zq6 ?_ | refine wN rfl ?_))
        (refine W_cond rfl (fun hc => ?_) (fun hc => ?_))
        · cases e1 : inR (lat ls k).s 0 (js.length - 2)
          · rw [e1] at h1
            (repeat (first | refine WL_nil ?_ | refine zq0 (by first | exact qv9 | exact q_callA (h1) | exact QV_indexAddr rfl rfl rfl rfl (row_at hp)) ?_ | refine zq1 ?_ | refine zq2 ?_ | refine zq3 ?_ | refine zq4 ?_ | refine zq5 ?_ | refine zq6 ?_ | refine wN rfl ?_))
            refine Exists.intro _ ⟨Weak.refl _, Exists.intro _ ⟨resA_tmp rfl rfl, ?_, rfl⟩⟩
            exact vb_eq (bad (by simp only [ldOk, e1, Bool.false_and])).symm
          · rw [e1] at h1
            cases e2 : inR (lat ls k).w 0 10000
            · rw [e2] at h2
              (repeat (first | refine WL_nil ?_ | refine zq0 (by first | exact qv9 | exact q_callA (h1) | exact q_callA (h2) | exact QV_indexAddr rfl rfl rfl rfl (row_at hp)) ?_ | refine zq1 ?_ | refine zq2 ?_ | refine zq3 ?_ | refine zq4 ?_ | refine zq5 ?_ | refine zq6 ?_ | refine wN rfl ?_))
              refine Exists.intro _ ⟨Weak.refl _, Exists.intro _ ⟨resA_tmp rfl rfl, ?_, rfl⟩⟩
              exact vb_eq (bad (by simp only [ldOk, e1, e2, Bool.false_and, Bool.and_false])).symm
            · rw [e2] at h2
              cases e3 : inR (lat ls k).x (-60) 60
              · rw [e3] at h3
                (repeat (first | refine WL_nil ?_ | refine zq0 (by first | exact qv9 | exact q_callA (h1) | exact q_callA (h2) | exact q_callA (h3) | exact QV_indexAddr rfl rfl rfl rfl (row_at hp)) ?_ | refine zq1 ?_ | refine zq2 ?_ | refine zq3 ?_ | refine zq4 ?_ | refine zq5 ?_ | refine zq6 ?_ | refine wN rfl ?_))
                refine Exists.intro _ ⟨Weak.refl _, Exists.intro _ ⟨resA_tmp rfl rfl, ?_, rfl⟩⟩
                exact vb_eq (bad (by simp only [ldOk, e1, e2, e3, Bool.and_false])).symm
              · rw [e3] at h3
                (repeat (first | refine WL_nil ?_ | refine zq0 (by first | exact qv9 | exact q_callA (h1) | exact q_callA (h2) | exact q_callA (h3) | exact QV_indexAddr rfl rfl rfl rfl (row_at hp)) ?_ | refine zq1 ?_ | refine zq2 ?_ | refine zq3 ?_ | refine zq4 ?_ | refine zq5 ?_ | refine zq6 ?_ | refine wN rfl ?_))
                refine Exists.intro _ (Exists.intro _ ⟨?_, ⟨k + 1, by omega, rfl, by rw [all_take_succ hp, hall]; simp only [ldOk, e1, e2, e3, Bool.and_self], rfl⟩, wkA⟩)
                omega
        · simp at hc; omega
      · (repeat (first | refine WL_nil ?_ | refine zq0 qv9 ?_ | refine zq1 ?_ | refine zq2 ?_ | refine zq3 ?_ | refine zq4 ?_ | refine zq5 ?_ | refine zq6 ?_ | refine wN rfl ?_))
        (refine W_cond rfl (fun hc => ?_) (fun hc => ?_))
        · simp at hc; omega
        · have hk' : k = ls.length := by omega
          subst hk'
          rw [List.take_length] at hall
          (repeat (first | refine WL_nil ?_ | refine zq0 qv9 ?_ | refine zq1 ?_ | refine zq2 ?_ | refine zq3 ?_ | refine zq4 ?_ | refine zq5 ?_ | refine zq6 ?_ | refine wN rfl ?_))
          refine Exists.intro _ ⟨Weak.refl _, Exists.intro _ ⟨resA_tmp rfl rfl, ?_, rfl⟩⟩
          exact vb_eq (by simp [loadsB, hst, hall, h6])

theorem w64_add (a b : Int) : W64 (W64 a + b) = W64 (a + b) := by
  show IntKind.i64.wrap (IntKind.i64.wrap a + b) = IntKind.i64.wrap (a + b)
  rw [IntKind.wrap_i64, IntKind.wrap_i64 (n := a), IntKind.wrap_i64 (n := a + b)]; omega
theorem w64_add' (a b : Int) : W64 (a + W64 b) = W64 (a + b) := by rw [Int.add_comm, w64_add, Int.add_comm]
theorem sumW_idem (f : Nat → Int) : ∀ k, W64 (sumW f k) = sumW f k
  | 0 => w64 (by simp only [sumW]; omega)
  | k + 1 => w64_idem _
theorem overW_idem (F : Pt → Pt → Int) (l : List Pt) : W64 (overW F l) = overW F l := by
  unfold overW
  split
  · exact sumW_idem _ _
  · exact w64 (by omega)
def conS (f : Ld → Int) (ls : List Ld) (k : Nat) : Int := (ls.map fun l => if l.s = (k : Int) then f l else 0).sum
theorem conS_succ {f : Ld → Int} {ls : List Ld} {k i : Nat} (h : i < ls.length) : conS f (ls.take (i + 1)) k = conS f (ls.take i) k + (if (lat ls i).s = k then f (lat ls i) else 0) := by
  unfold conS
  rw [List.take_add_one, lat_lt h]
  simp
theorem conS_nil (f : Ld → Int) (k : Nat) : conS f [] k = 0 := rfl
def momL (l : Ld) : Int := l.w * l.x
def qd (js : List Jt) (k : Nat) : List Pt := quad (jat js k) (jat js (k + 1))
def addW (js : List Jt) (ls : List Ld) (k : Nat) : Int := weightW (qd js k) + conS Ld.w ls k
def addM (js : List Jt) (ls : List Ld) (k : Nat) : Int := overW momF (qd js k) + conS momL ls k
def lwA (js : List Jt) (ls : List Ld) (k : Nat) : Int := sumW (addW js ls) k
def lmA (js : List Jt) (ls : List Ld) (k : Nat) : Int := sumW (addM js ls) k
theorem arch_step {js : List Jt} (h : archB js = true) {k : Nat} (hk : k + 1 < js.length) : stoneB (qd js k) = true := by
  simp only [archB, Bool.and_eq_true, List.all_eq_true, List.mem_range] at h
  have := h.2 k (by omega)
  simp only [stepB, Bool.and_eq_true] at this
  exact this.1
def fillR (f : Nat → List AV) (z : List AV) (m k : Nat) : List (List AV) := (List.range k).map f ++ List.replicate (m - k) z
theorem range_at {m j : Nat} (h : j < m) : (List.range m)[j]? = some j := by simp [h]
theorem fillR_len {f : Nat → List AV} {z : List AV} {m k e : Nat} (hf : ∀ j, (f j).length = e) (hz : z.length = e) : ∀ r ∈ fillR f z m k, r.length = e := by
  intro r hr
  rcases List.mem_append.1 hr with h | h
  · obtain ⟨p, _, rfl⟩ := List.mem_map.1 h; exact hf p
  · rw [List.eq_of_mem_replicate h]; exact hz
theorem fillR_step {f : Nat → List AV} {z : List AV} {m k : Nat} (h : k < m) : (fillR f z m k).set k (f k) = fillR f z m (k + 1) := by
  unfold fillR
  rw [List.set_append_right _ _ (by simp), List.length_map, List.length_range, Nat.sub_self, show m - k = (m - (k + 1)) + 1 by omega, List.replicate_succ, List.range_succ]
  simp
theorem fillR_all {f : Nat → List AV} {z : List AV} {m : Nat} : fillR f z m m = (List.range m).map f := by
  simp [fillR]
section
variable {E : En} {bl : List (Nat × List AV)} {tm : List (Nat × AV)} {d : Option Tmp} {ty : TypeId} {pos : String} {af : Array Edge} {gd : Option (Nat × Bool)}
theorem q_sliceE {t : Nat} {x : Operand} {lo hi : Option Operand} {xv : AV} {T e by_ : Nat} {rows out : List (List AV)} {l h : Int} {i j : Nat} [hs : SlOk E.P t T e by_] (hx : ev tm x = xv) (hr : arows xv = some (e, rows))
    (hlo : abound (lo.map (ev tm)) 0 = some l) (hhi : abound (hi.map (ev tm)) rows.length = some h) (hi' : l = i) (hj : h = j) (hij : i ≤ j) (hjl : j ≤ rows.length) (ho : (rows.take j).drop i = out) :
    QV E bl tm ⟨d, .slice t x lo hi none, ty, pos, af, gd⟩ (.sl e out) [] [] := by
  subst ho
  exact QV_slice hx hr hlo hhi hi' hj hij hjl
theorem q_lenE {t : Nat} {x : Operand} {xv : AV} {T e e' by_ n : Nat} {rows : List (List AV)} [hs : SlOk E.P t T e' by_] (hx : ev tm x = xv) (hr : arows xv = some (e, rows)) (hl : rows.length = n) :
    QV E bl tm ⟨d, .call ⟨.builtin .len, #[x], #[t]⟩, ty, pos, af, gd⟩ (.v (.int .i64 n)) [] [] := by
  subst hl
  exact QV_len hx hr
end

theorem set_lenE {rows : List (List AV)} {i e : Nat} {r : List AV} (h : ∀ r ∈ rows, r.length = e) (hr : r.length = e) : ∀ r' ∈ rows.set i r, r'.length = e := by
  intro r' h'
  rcases List.mem_or_eq_of_mem_set h' with h' | rfl
  · exact h r' h'
  · exact hr
def wmRow (js : List Jt) (ls : List Ld) (j : Nat) : List AV := [vi (W64 (weightW (qd js j) + conS Ld.w ls j)), vi (W64 (overW momF (qd js j) + conS momL ls j))]
theorem wmRow_nil (js : List Jt) (j : Nat) : wmRow js [] j = [vi (weightW (qd js j)), vi (overW momF (qd js j))] := by
  simp only [wmRow, conS_nil, Int.add_zero, overW_idem]
  rw [weightW, w64_idem]
theorem wmRow_set {js : List Jt} {ls : List Ld} {m i s : Nat} (hi : i < ls.length) (hs : (lat ls i).s = (s : Int)) : ((List.range m).map (wmRow js (ls.take i))).set s (wmRow js (ls.take (i + 1)) s) = (List.range m).map (wmRow js (ls.take (i + 1))) := by
  apply List.ext_getElem
  · simp
  · intro j h1 h2
    rw [List.getElem_set]
    split
    · rename_i h; subst h; simp
    · rename_i h
      have : ¬ (lat ls i).s = (j : Int) := by omega
      simp [wmRow, conS_succ hi, this]
theorem weightsOf_ok (js : List Jt) (ls : List Ld) (h : loadsB js ls = true) : CallOk Tryz.prog 22 [.agg [slJt js], slLd ls] (fun r => r = .own 15 78 2 ((List.range (js.length - 1)).map (wmRow js ls))) := by
  have ha := loads_arch h
  have h8 := arch_len ha
  have h6 := loads_six h
  have h0 : 0 < js.length := by omega
  have hn : js.length - 1 ≤ 1048576 := by omega
  refine callOk Tryz.func22 Tryz.ntmps22 Tryz.results22 rfl rfl rfl fun B w0 M I0 V0 => ?_
  (repeat (first | refine WL_nil ?_ | refine zq0 (by first | exact qv9 | exact QV_lenA rfl) ?_ | (apply wlb (hd := rfl); (first | exact q_box rfl rfl rfl | exact q_alloc | exact QV_makeA rfl rfl (last_at h0) (last_at h0) hn rfl); (exact gy0); rfl) | refine zq2 ?_ | refine zq3 ?_ | refine zq4 ?_ | refine zq5 ?_ | refine zq6 ?_ | refine wN rfl ?_))
  refine W_loop (fun n s => ∃ k : Nat, k ≤ js.length - 1 ∧ n = js.length - 1 - k ∧ s = ⟨[(1, slLd ls), (2, .ptr 2 0), (5, .arr 15 78 2 (js.length - 1)), (17, vi (js.length - 1 : Nat)), (18, vi k)], [(2, [slJt js]), (15, (fillR (wmRow js []) [vi 0, vi 0] (js.length - 1) k).flatten)], []⟩) ⟨_, _, ⟨0, by omega, rfl, rfl⟩, wkA⟩ ?_
  rintro n s ⟨k, hk, rfl, rfl⟩
  by_cases hlt : k < js.length - 1
  · have hp := jat_lt (show k < js.length by omega)
    have hq := jat_lt (show k + 1 < js.length by omega)
    have hst := arch_step ha (show k + 1 < js.length by omega)
    have hs := implStoneBetween_ok _ _ hst
    have hw := implWeightOf_ok (qd js k) (quad_len _ _)
    have hm := implMomentOf_ok (qd js k) (quad_len _ _)
    (repeat (first | refine WL_nil ?_ | refine zq0 qv9 ?_ | refine zq1 ?_ | refine zq2 ?_ | refine zq3 ?_ | refine zq4 ?_ | refine zq5 ?_ | refine zq6 ?_ | refine wN rfl ?_))
    (refine W_cond rfl (fun hc => ?_) (fun hc => ?_))
    · (repeat (first | refine WL_nil ?_ | refine zq0 qv9 ?_ | refine zq1 ?_ | refine zq2 ?_ | refine zq3 ?_ | refine zq4 ?_ | refine zq5 ?_ | refine zq6 ?_ | refine wN rfl ?_))
      refine wdraw 18 (by kernel_rfl) (by kernel_rfl) (by kernel_rfl) rfl ?_
      (repeat (first | refine HW_nil ?_ | (apply hw0 (hd := rfl); (first | exact qv9 | exact QV_indexAddr rfl rfl rfl rfl (row_at hp) | exact QV_indexAddr rfl rfl rfl rfl (row_at hq)); (exact gy0)) | (apply hwb (hd := rfl); (first | exact q_box rfl rfl rfl | exact q_allocT rfl); (exact gy0); rfl) | refine zq7 ?_ | refine zq8 ?_ | (apply hwn1 (hd := rfl); exact q_call1A 20 15 (hs); (exact gy0); rfl) | refine hwi rfl rfl List.not_mem_nil rfl rfl rfl rfl rfl ?_))
      (repeat (first | refine WL_nil ?_ | refine zq0 qv9 ?_ | refine zq1 ?_ | refine zq2 ?_ | refine zq3 ?_ | refine zq4 ?_ | refine zq5 ?_ | refine zq6 ?_ | refine wN rfl ?_))
      refine wdraw 8 (by kernel_rfl) (by kernel_rfl) (by kernel_rfl) rfl ?_
      (repeat (first | refine HW_nil ?_ | (apply hw0 (hd := rfl); (first | exact qv9 | exact QV_indexA rfl rfl rfl hlt | exact q_callA (hw) | exact q_callA (hm)); (exact gy0)) | (apply hwb (hd := rfl); exact qbx; (exact gy0); rfl) | refine zq7 ?_ | refine zq8 ?_))
      (repeat (first | refine WL_nil ?_ | refine zq0 qv9 ?_ | refine zq1 ?_ | refine zq2 ?_ | refine zq3 ?_ | refine zq4 ?_ | refine wstA rfl rfl rfl List.not_mem_nil rfl rfl rfl rfl (by simp [fillR]; omega) (fillR_len (fun _ => rfl) rfl) rfl ?_ | refine zq5 ?_ | refine zq6 ?_ | refine wN rfl ?_))
      rw [← wmRow_nil, fillR_step hlt]
      refine Exists.intro _ (Exists.intro _ ⟨?_, ⟨k + 1, by omega, rfl, rfl⟩, wkA⟩)
      omega
    · simp at hc; omega
  · (repeat (first | refine WL_nil ?_ | refine zq0 qv9 ?_ | refine zq1 ?_ | refine zq2 ?_ | refine zq3 ?_ | refine zq4 ?_ | refine zq5 ?_ | refine zq6 ?_ | refine wN rfl ?_))
    (refine W_cond rfl (fun hc => ?_) (fun hc => ?_))
    · simp at hc; omega
    · have hk' : k = js.length - 1 := by omega
      subst hk'
      rw [fillR_all]
      (repeat (first | refine WL_nil ?_ | refine zq0 qv9 ?_ | refine zq1 ?_ | refine zq2 ?_ | refine zq3 ?_ | refine zq4 ?_ | refine zq5 ?_ | refine zq6 ?_ | refine wN rfl ?_))
      refine W_loop (fun n s => ∃ i : Nat, i ≤ ls.length ∧ n = ls.length - i ∧ s = ⟨[(2, .ptr 2 0), (5, .arr 15 78 2 (js.length - 1)), (45, slLd ls), (46, vi ls.length), (47, vi i)], [(2, [slJt js]), (15, ((List.range (js.length - 1)).map (wmRow js (ls.take i))).flatten)], []⟩) ⟨_, _, ⟨0, by omega, rfl, rfl⟩, wkA⟩ ?_
      rintro n s ⟨i, hi, rfl, rfl⟩
      by_cases hil : i < ls.length
      · have hl := lat_lt hil
        have hb := loads_at h hil
        obtain ⟨s, hsN⟩ : ∃ s : Nat, (lat ls i).s = (s : Int) := ⟨(lat ls i).s.toNat, by omega⟩
        have hlt2 : s < js.length - 1 := by omega
        have hr0 : ((List.range (js.length - 1)).map (wmRow js (ls.take i)))[s]? = some (wmRow js (ls.take i) s) := row_at (range_at hlt2)
        have hl0 : ∀ r ∈ (List.range (js.length - 1)).map (wmRow js (ls.take i)), r.length = 2 := map_len (fun _ => rfl)
        have hr1 : (((List.range (js.length - 1)).map (wmRow js (ls.take i))).set s [vi (W64 (W64 (weightW (qd js s) + conS Ld.w (ls.take i) s) + (lat ls i).w)), vi (W64 (overW momF (qd js s) + conS momL (ls.take i) s))])[s]? = some [vi (W64 (W64 (weightW (qd js s) + conS Ld.w (ls.take i) s) + (lat ls i).w)), vi (W64 (overW momF (qd js s) + conS momL (ls.take i) s))] := by
          rw [List.getElem?_set_self (List.getElem?_eq_some_iff.1 hr0).1]
        have hl1 : ∀ r ∈ ((List.range (js.length - 1)).map (wmRow js (ls.take i))).set s [vi (W64 (W64 (weightW (qd js s) + conS Ld.w (ls.take i) s) + (lat ls i).w)), vi (W64 (overW momF (qd js s) + conS momL (ls.take i) s))], r.length = 2 := set_lenE hl0 rfl
        (repeat (first | refine WL_nil ?_ | refine zq0 qv9 ?_ | refine zq1 ?_ | refine zq2 ?_ | refine zq3 ?_ | refine zq4 ?_ | refine zq5 ?_ | refine zq6 ?_ | refine wN rfl ?_))
        (refine W_cond rfl (fun hc => ?_) (fun hc => ?_))
        · (repeat (first | refine WL_nil ?_ | refine zq0 (by first | exact qv9 | exact QV_indexAddr rfl rfl rfl rfl (row_at hl)) ?_ | refine zq1 ?_ | refine zq2 ?_ | refine zq3 ?_ | refine zq4 ?_ | refine zq5 ?_ | refine zq6 ?_ | refine wN rfl ?_))
          refine wdraw 11 (by kernel_rfl) (by kernel_rfl) (by kernel_rfl) rfl ?_
          (repeat (first | refine HW_nil ?_ | (apply hw0 (hd := rfl); (first | exact qv9 | exact QV_indexA rfl rfl hsN hlt2 | exact q_loadA (e := 2) (o := 0) rfl rfl hl0 hr0 rfl rfl); (exact gy0)) | (apply hwb (hd := rfl); exact qbx; (exact gy0); rfl) | refine zq7 ?_ | refine zq8 ?_))
          (repeat (first | refine WL_nil ?_ | refine zq0 qv9 ?_ | refine zq1 ?_ | refine zq2 ?_ | refine zq3 ?_ | refine zq4 ?_ | refine wstP (j := s) (e := 2) (o := 0) rfl rfl rfl List.not_mem_nil rfl rfl rfl rfl hr0 rfl hl0 rfl ?_ | refine zq5 ?_ | refine zq6 ?_ | refine wN rfl ?_))
          refine wdraw 14 (by kernel_rfl) (by kernel_rfl) (by kernel_rfl) rfl ?_
          (repeat (first | refine HW_nil ?_ | (apply hw0 (hd := rfl); (first | exact qv9 | exact QV_indexA rfl rfl hsN hlt2 | exact q_loadA (e := 2) (o := 1) rfl rfl hl1 hr1 rfl rfl); (exact gy0)) | (apply hwb (hd := rfl); exact qbx; (exact gy0); rfl) | refine zq7 ?_ | refine zq8 ?_))
          (repeat (first | refine WL_nil ?_ | refine zq0 qv9 ?_ | refine zq1 ?_ | refine zq2 ?_ | refine zq3 ?_ | refine zq4 ?_ | refine wstP (j := s) (e := 2) (o := 1) rfl rfl rfl List.not_mem_nil rfl rfl rfl rfl hr1 rfl hl1 rfl ?_ | refine zq5 ?_ | refine zq6 ?_ | refine wN rfl ?_))
          have hset : (((List.range (js.length - 1)).map (wmRow js (ls.take i))).set s [vi (W64 (W64 (weightW (qd js s) + conS Ld.w (ls.take i) s) + (lat ls i).w)), vi (W64 (overW momF (qd js s) + conS momL (ls.take i) s))]).set s [vi (W64 (W64 (weightW (qd js s) + conS Ld.w (ls.take i) s) + (lat ls i).w)), vi (W64 (W64 (overW momF (qd js s) + conS momL (ls.take i) s) + W64 ((lat ls i).w * (lat ls i).x)))] = (List.range (js.length - 1)).map (wmRow js (ls.take (i + 1))) := by
            rw [List.set_set, ← wmRow_set hil hsN, wmRow, conS_succ hil, conS_succ hil, if_pos hsN, if_pos hsN, w64_add, w64_add', w64_add, momL, ← Int.add_assoc, ← Int.add_assoc]
          rw [hset]
          refine Exists.intro _ (Exists.intro _ ⟨?_, ⟨i + 1, by omega, rfl, rfl⟩, wkA⟩)
          omega
        · simp at hc; omega
      · (repeat (first | refine WL_nil ?_ | refine zq0 qv9 ?_ | refine zq1 ?_ | refine zq2 ?_ | refine zq3 ?_ | refine zq4 ?_ | refine zq5 ?_ | refine zq6 ?_ | refine wN rfl ?_))
        (refine W_cond rfl (fun hc => ?_) (fun hc => ?_))
        · simp at hc; omega
        · have hi' : i = ls.length := by omega
          subst hi'
          rw [List.take_length]
          have hlen : js.length - 1 = ((List.range (js.length - 1)).map (wmRow js ls)).length := by simp
          have hl : ∀ r ∈ (List.range (js.length - 1)).map (wmRow js ls), r.length = 2 := map_len (fun _ => rfl)
          have hD : ∀ x ∈ ((List.range (js.length - 1)).map (wmRow js ls)).flatten, toD x = x := flat_toD (by simp [toD, wmRow])
          (repeat (first | refine WL_nil ?_ | refine zq0 qv9 ?_ | refine zq1 ?_ | refine zq2 ?_ | refine zq3 ?_ | refine zq4 ?_ | refine zq5 ?_ | refine zq6 ?_ | refine wN rfl ?_))
          refine Exists.intro (⟨[(4, .own 15 78 2 ((List.range (js.length - 1)).map (wmRow js ls)))], [], [15]⟩ : St) ⟨weak_freeze rfl 15 78 2 ((List.range (js.length - 1)).map (wmRow js ls)) rfl hl (by rw [← hlen]; exact hn) hD (by simp) ⟨.inl ⟨congrArg (AV.arr 15 78 2) hlen, rfl⟩, trivial⟩ (by simp) rfl trivial (by simp) (by simp) rfl rfl rfl (fun _ _ _ h => h), Exists.intro _ ⟨resA_tmp rfl rfl, ?_, rfl⟩⟩
          rfl

end Go.Proofs.YtpcahgedkmgllaaGreat
