/- Determinants of three rows; the thrust at which three rows are just met; the corners of rows. Plain; no program in sight. -/
import Derived.Test.YtkieepmkcaipaaaGreatYARw
import Derived.Test.YtkieepmkcaipaaaGreatZ6
namespace Go.Proofs.YtkieepmkcaipaaaGreat
open Go.Eng

theorem wk (n : Int) : ∃ k : Int, W64 n = n + 18446744073709551616 * k := by
  refine ⟨(W64 n - n) / 18446744073709551616, ?_⟩
  have : (W64 n - n) % 18446744073709551616 = 0 := by
    simp [W64, IntKind.wrap, IntKind.bits, IntKind.signed]
    try omega
  omega
theorem wsh (n k : Int) : W64 (n + 18446744073709551616 * k) = W64 n := by
  simp [W64, IntKind.wrap, IntKind.bits, IntKind.signed]
  try omega
theorem wcong {a b : Int} (k : Int) (h : a = b + 18446744073709551616 * k) : W64 a = W64 b := by rw [h, wsh]
theorem wmul_l (a b : Int) : W64 (W64 a * b) = W64 (a * b) := by
  obtain ⟨k, hk⟩ := wk a
  exact wcong (k * b) (by rw [hk]; grind)
theorem wmul_r (a b : Int) : W64 (a * W64 b) = W64 (a * b) := by rw [Int.mul_comm, wmul_l, Int.mul_comm]
theorem wadd_l (a b : Int) : W64 (W64 a + b) = W64 (a + b) := w64_add a b
theorem wadd_r (a b : Int) : W64 (a + W64 b) = W64 (a + b) := w64_add' a b
theorem wsub_l (a b : Int) : W64 (W64 a - b) = W64 (a - b) := by
  obtain ⟨k, hk⟩ := wk a
  exact wcong k (by rw [hk]; omega)
theorem wsub_r (a b : Int) : W64 (a - W64 b) = W64 (a - b) := by
  obtain ⟨k, hk⟩ := wk b
  exact wcong (-k) (by rw [hk]; omega)

structure V3 where
  x : Int
  y : Int
  z : Int
abbrev V3.av (v : V3) : AV := .agg [vi v.x, vi v.y, vi v.z]
def det3 (a b c : V3) : Int := a.x * (b.y * c.z - b.z * c.y) - a.y * (b.x * c.z - b.z * c.x) + a.z * (b.x * c.y - b.y * c.x)
def det3W (a b c : V3) : Int := W64 (W64 (W64 (a.x * W64 (W64 (b.y * c.z) - W64 (b.z * c.y))) - W64 (a.y * W64 (W64 (b.x * c.z) - W64 (b.z * c.x)))) + W64 (a.z * W64 (W64 (b.x * c.y) - W64 (b.y * c.x))))
theorem det3W_eq (a b c : V3) : det3W a b c = W64 (det3 a b c) := by
  unfold det3W det3
  simp only [wmul_r, wadd_l, wadd_r, wsub_l, wsub_r]
theorem det3_swap (a b c : V3) : det3 a b c = det3 ⟨a.x, b.x, c.x⟩ ⟨a.y, b.y, c.y⟩ ⟨a.z, b.z, c.z⟩ := by
  unfold det3; grind
theorem det3_bd {a b c : V3} {l m n : Int} (ax : -l ≤ a.x ∧ a.x ≤ l) (ay : -m ≤ a.y ∧ a.y ≤ m) (az : -n ≤ a.z ∧ a.z ≤ n) (bx : -l ≤ b.x ∧ b.x ≤ l) (bY : -m ≤ b.y ∧ b.y ≤ m) (bz : -n ≤ b.z ∧ b.z ≤ n) (cx : -l ≤ c.x ∧ c.x ≤ l) (cy : -m ≤ c.y ∧ c.y ≤ m) (cz : -n ≤ c.z ∧ c.z ≤ n) :
    -(6 * (l * m * n)) ≤ det3 a b c ∧ det3 a b c ≤ 6 * (l * m * n) := by
  have tri : ∀ {p q r L M N : Int}, (-L ≤ p ∧ p ≤ L) → (-M ≤ q ∧ q ≤ M) → (-N ≤ r ∧ r ≤ N) → -(L * M * N) ≤ p * q * r ∧ p * q * r ≤ L * M * N := fun h1 h2 h3 => mul_bd (mul_bd h1 h2) h3
  have h1 := tri ax bY cz
  have h2 := tri ax cy bz
  have h3 := tri bx ay cz
  have h4 := tri cx ay bz
  have h5 := tri bx cy az
  have h6 := tri cx bY az
  have e : det3 a b c = a.x * b.y * c.z - a.x * c.y * b.z - b.x * a.y * c.z + c.x * a.y * b.z + b.x * c.y * a.z - c.x * b.y * a.z := by unfold det3; grind
  rw [e]
  generalize l * m * n = B at *
  omega

abbrev abc (r : Rw) : V3 := ⟨r.a, r.b, r.c⟩
abbrev dbc (r : Rw) : V3 := ⟨r.d, r.b, r.c⟩
abbrev adc (r : Rw) : V3 := ⟨r.a, r.d, r.c⟩
abbrev abd (r : Rw) : V3 := ⟨r.a, r.b, r.d⟩
def detR (p q r : Rw) : Int := det3 (abc p) (abc q) (abc r)
def detH (p q r : Rw) : Int := det3 (dbc p) (dbc q) (dbc r)
def detV (p q r : Rw) : Int := det3 (adc p) (adc q) (adc r)
def detM (p q r : Rw) : Int := det3 (abd p) (abd q) (abd r)
section
variable {p q r : Rw} (hp : rowB p = true) (hq : rowB q = true) (hr : rowB r = true)
include hp hq hr
theorem detR_bd : -60000 ≤ detR p q r ∧ detR p q r ≤ 60000 := by
  rw [rowB_true] at hp hq hr
  have := det3_bd (a := abc p) (b := abc q) (c := abc r) (l := 100) (m := 100) (n := 1) (by simp; omega) (by simp; omega) (by simp; omega) (by simp; omega) (by simp; omega) (by simp; omega) (by simp; omega) (by simp; omega) (by simp; omega)
  unfold detR; omega
theorem detH_bd : -600000000000 ≤ detH p q r ∧ detH p q r ≤ 600000000000 := by
  rw [rowB_true] at hp hq hr
  have := det3_bd (a := dbc p) (b := dbc q) (c := dbc r) (l := 1000000000) (m := 100) (n := 1) (by simp; omega) (by simp; omega) (by simp; omega) (by simp; omega) (by simp; omega) (by simp; omega) (by simp; omega) (by simp; omega) (by simp; omega)
  unfold detH; omega
theorem detV_bd : -600000000000 ≤ detV p q r ∧ detV p q r ≤ 600000000000 := by
  rw [rowB_true] at hp hq hr
  have := det3_bd (a := adc p) (b := adc q) (c := adc r) (l := 100) (m := 1000000000) (n := 1) (by simp; omega) (by simp; omega) (by simp; omega) (by simp; omega) (by simp; omega) (by simp; omega) (by simp; omega) (by simp; omega) (by simp; omega)
  unfold detV; omega
theorem detM_bd : -60000000000000 ≤ detM p q r ∧ detM p q r ≤ 60000000000000 := by
  rw [rowB_true] at hp hq hr
  have := det3_bd (a := abd p) (b := abd q) (c := abd r) (l := 100) (m := 100) (n := 1000000000) (by simp; omega) (by simp; omega) (by simp; omega) (by simp; omega) (by simp; omega) (by simp; omega) (by simp; omega) (by simp; omega) (by simp; omega)
  unfold detM; omega
end

def farB (n : Int) : Bool := inR n (-4000000000000000000) 4000000000000000000
theorem farB_true {n : Int} : farB n = true ↔ -4000000000000000000 ≤ n ∧ n ≤ 4000000000000000000 := inR_true
def mkG (t : Th) : Int := if t.d < 0 then -(gcd4 t : Int) else gcd4 t
def mkD (t : Th) : Th := ⟨t.h.tdiv (mkG t), t.v.tdiv (mkG t), t.m.tdiv (mkG t), t.d.tdiv (mkG t)⟩
def farT (t : Th) : Bool := !decide (t.d = 0) && (farB t.h && (farB t.v && (farB t.m && farB t.d)))
def mkT (t : Th) : Option Th := bif farT t && thOk (mkD t) then some (mkD t) else none
abbrev thZ : Th := ⟨0, 0, 0, 0⟩
abbrev thO (o : Option Th) : AV := .tup [(o.getD thZ).av, vb o.isSome]
def det0 (p q r : Rw) : Int := bif rowB p && (rowB q && rowB r) then detR p q r else 0
def slv (p q r : Rw) : Option Th := bif decide (det0 p q r = 0) then none else mkT ⟨detH p q r, detV p q r, detM p q r, detR p q r⟩
theorem mkT_ok {t u : Th} (h : mkT t = some u) : thOk u = true := by
  unfold mkT at h
  cases e : farT t && thOk (mkD t)
  · rw [e] at h; cases h
  · rw [e] at h
    simp only [Bool.and_eq_true, cond_true, Option.some.injEq] at e h
    rw [← h]; exact e.2
theorem slv_ok {p q r : Rw} {t : Th} (h : slv p q r = some t) : thOk t = true := by
  unfold slv at h
  cases e : decide (det0 p q r = 0)
  · rw [e] at h; exact mkT_ok h
  · rw [e] at h; cases h

def thEq (t u : Th) : Bool := t.h == u.h && (t.v == u.v && (t.m == u.m && (t.d == u.d && true)))
theorem thEq_iff {t u : Th} : thEq t u = true ↔ t = u := by
  cases t; cases u
  simp [thEq]
def hasT (l : List Th) (t : Th) : Bool := l.any fun u => thEq u t
theorem hasT_iff {l : List Th} {t : Th} : hasT l t = true ↔ t ∈ l := by
  simp only [hasT, List.any_eq_true, thEq_iff]
  constructor
  · rintro ⟨u, h, rfl⟩; exact h
  · intro h; exact ⟨t, h, rfl⟩
theorem hasT_at {l : List Th} {i : Nat} {u t : Th} (h : l[i]? = some u) (e : thEq u t = true) : hasT l t = true := List.any_eq_true.2 ⟨u, List.mem_of_getElem? h, e⟩
theorem hasT_take {l : List Th} {i : Nat} {u t : Th} (h : l[i]? = some u) : hasT (l.take (i + 1)) t = (hasT (l.take i) t || thEq u t) := by
  unfold hasT
  rw [List.take_add_one, h]
  simp
def tat (l : List Th) (i : Nat) : Th := l.getD i ⟨0, 0, 0, 0⟩
theorem tat_lt {l : List Th} {i : Nat} (h : i < l.length) : l[i]? = some (tat l i) := by
  simp [tat, h]
abbrev slTh (l : List Th) : AV := .sl 4 (l.map Th.row)
theorem th_cells (l : List Th) : ∀ x ∈ (l.map Th.row).flatten, isCell x = true := by
  intro x hx
  obtain ⟨r, hr, hx⟩ := List.mem_flatten.1 hx
  obtain ⟨p, _, rfl⟩ := List.mem_map.1 hr
  simp only [Th.row, List.mem_cons, List.not_mem_nil, or_false] at hx
  rcases hx with rfl | rfl | rfl | rfl <;> rfl
theorem th_lens (l : List Th) : ∀ r ∈ l.map Th.row, r.length = 4 := by
  intro r hr
  obtain ⟨p, _, rfl⟩ := List.mem_map.1 hr
  rfl
theorem th_app {l : List Th} {t : Th} : l.map Th.row ++ [t.row] = (l ++ [t]).map Th.row := by simp
theorem th_eqv (t u : Th) : eqvO [true, true, true, true] t.row u.row = some (thEq t u) := rfl
def holB (t : Th) (r : Rw) : Bool := decide (lhs t r ≤ rhs t r)
def addO (l : List Rw) (out : List Th) : Option Th → List Th
  | none => out
  | some t => bif hasT out t then out else bif l.all (holB t) then out ++ [t] else out
def slvA (l : List Rw) (i k m : Nat) : Option Th := slv (wat l i) (wat l k) (wat l m)
def cM (l : List Rw) (i k : Nat) (out : List Th) : Nat → List Th
  | 0 => out
  | n + 1 => addO l (cM l i k out n) (slvA l i k (k + 1 + n))
def cK (l : List Rw) (i : Nat) (out : List Th) : Nat → List Th
  | 0 => out
  | n + 1 => cM l i (i + 1 + n) (cK l i out n) (l.length - (i + 1 + n + 1))
def cI (l : List Rw) : Nat → List Th
  | 0 => []
  | n + 1 => cK l n (cI l n) (l.length - (n + 1))
def corL (l : List Rw) : List Th := bif l.all rowB && inR l.length 3 20 then cI l l.length else []
def CorP (l : List Rw) (t : Th) : Prop := thOk t = true ∧ l.all (holB t) = true
theorem addO_P {l : List Rw} {out : List Th} {o : Option Th} (h : ∀ t ∈ out, CorP l t) (ho : ∀ t, o = some t → thOk t = true) : ∀ t ∈ addO l out o, CorP l t := by
  cases o with
  | none => exact h
  | some u =>
    intro t ht
    unfold addO at ht
    simp only at ht
    cases e1 : hasT out u
    · rw [e1] at ht
      cases e2 : l.all (holB u)
      · rw [e2] at ht; exact h t ht
      · rw [e2] at ht
        simp only [cond_false, cond_true, List.mem_append, List.mem_singleton] at ht
        rcases ht with ht | rfl
        · exact h t ht
        · exact ⟨ho _ rfl, e2⟩
    · rw [e1] at ht; exact h t ht
theorem cM_P {l : List Rw} {i k : Nat} {out : List Th} (h : ∀ t ∈ out, CorP l t) : ∀ n, ∀ t ∈ cM l i k out n, CorP l t
  | 0 => h
  | n + 1 => addO_P (cM_P h n) fun _ e => slv_ok e
theorem cK_P {l : List Rw} {i : Nat} {out : List Th} (h : ∀ t ∈ out, CorP l t) : ∀ n, ∀ t ∈ cK l i out n, CorP l t
  | 0 => h
  | n + 1 => cM_P (cK_P h n) _
theorem cI_P {l : List Rw} : ∀ n, ∀ t ∈ cI l n, CorP l t
  | 0 => by simp [cI]
  | n + 1 => cK_P (cI_P n) _
theorem corL_P {l : List Rw} {t : Th} (h : t ∈ corL l) : CorP l t ∧ l.all rowB = true ∧ 3 ≤ l.length ∧ l.length ≤ 20 := by
  unfold corL at h
  cases e : l.all rowB && inR l.length 3 20
  · rw [e] at h; simp at h
  · rw [e] at h
    simp only [Bool.and_eq_true, inR_true] at e
    exact ⟨cI_P _ t h, e.1, by omega, by omega⟩
theorem addO_len (l : List Rw) (out : List Th) (o : Option Th) : out.length ≤ (addO l out o).length ∧ (addO l out o).length ≤ out.length + 1 := by
  cases o with
  | none => simp [addO]
  | some u =>
    unfold addO
    simp only
    cases hasT out u <;> cases l.all (holB u) <;> simp
theorem cM_len (l : List Rw) (i k : Nat) (out : List Th) : ∀ n, (cM l i k out n).length ≤ out.length + n
  | 0 => by simp [cM]
  | n + 1 => by
    have h1 := cM_len l i k out n
    have h2 := (addO_len l (cM l i k out n) (slvA l i k (k + 1 + n))).2
    simp only [cM]; omega
theorem cK_len (l : List Rw) (hl : l.length ≤ 20) (i : Nat) (out : List Th) : ∀ n, (cK l i out n).length ≤ out.length + 20 * n
  | 0 => by simp [cK]
  | n + 1 => by
    have h1 := cK_len l hl i out n
    have h2 := cM_len l i (i + 1 + n) (cK l i out n) (l.length - (i + 1 + n + 1))
    simp only [cK]; omega
theorem cI_len (l : List Rw) (hl : l.length ≤ 20) : ∀ n, (cI l n).length ≤ 400 * n
  | 0 => by simp [cI]
  | n + 1 => by
    have h1 := cI_len l hl n
    have h2 := cK_len l hl n (cI l n) (l.length - (n + 1))
    simp only [cI]; omega
theorem corL_len (l : List Rw) : (corL l).length ≤ 8000 := by
  unfold corL
  cases e : l.all rowB && inR l.length 3 20
  · simp
  · simp only [Bool.and_eq_true, inR_true] at e
    have := cI_len l (by omega) l.length
    simp only [cond_true]; omega
end Go.Proofs.YtkieepmkcaipaaaGreat
