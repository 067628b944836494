/- Points, stones, joints, arches as plain data; what the functions on points and stones answer. No program in sight. -/
import Derived.Test.YtkaffcdjhbaifaaGreatZ1
import Derived.Test.YtkaffcdjhbaifaaGreatZ3
import Derived.Test.YtkaffcdjhbaifaaGreatZ4
import Derived.Test.YtkaffcdjhbaifaaGreatYI
import Derived.Test.YtkaffcdjhbaifaaGreatZ5
namespace Go.Proofs.YtkaffcdjhbaifaaGreat
open Go.Eng

abbrev vi (n : Int) : AV := .v (.int .i64 n)
abbrev vb (b : Bool) : AV := .v (.bool b)
abbrev W64 (n : Int) : Int := IntKind.i64.wrap n
theorem vi_eq {a b : Int} (h : a = b) : vi a = vi b := by rw [h]
theorem vb_eq {a b : Bool} (h : a = b) : vb a = vb b := by rw [h]
theorem w64 {n : Int} (h : -9223372036854775808 ≤ n ∧ n ≤ 9223372036854775807) : W64 n = n := i64w h

structure Pt where
  x : Int
  y : Int
  deriving DecidableEq
abbrev Pt.row (p : Pt) : List AV := [vi p.x, vi p.y]
abbrev Pt.av (p : Pt) : AV := .agg [vi p.x, vi p.y]
abbrev slPt (l : List Pt) : AV := .sl 2 (l.map Pt.row)
structure Jt where
  i : Pt
  o : Pt
  deriving DecidableEq
abbrev Jt.row (j : Jt) : List AV := [vi j.i.x, vi j.i.y, vi j.o.x, vi j.o.y]
abbrev Jt.av (j : Jt) : AV := .agg [vi j.i.x, vi j.i.y, vi j.o.x, vi j.o.y]
abbrev slJt (l : List Jt) : AV := .sl 4 (l.map Jt.row)

theorem row_at {α : Type} {f : α → List AV} {l : List α} {j : Nat} {p : α} (h : l[j]? = some p) : (l.map f)[j]? = some (f p) := by simp [h]

def inR (x a b : Int) : Bool := decide (a ≤ x) && decide (x ≤ b)
theorem inR_true {x a b : Int} : inR x a b = true ↔ a ≤ x ∧ x ≤ b := by simp [inR]
def ptOk (p : Pt) : Bool := inR p.x (-60) 60 && inR p.y (-60) 60
theorem ptOk_true {p : Pt} : ptOk p = true ↔ (-60 ≤ p.x ∧ p.x ≤ 60) ∧ -60 ≤ p.y ∧ p.y ≤ 60 := by simp [ptOk, inR_true]
def sideW (a b p : Pt) : Int := W64 (W64 (W64 (b.x - a.x) * W64 (p.y - a.y)) - W64 (W64 (b.y - a.y) * W64 (p.x - a.x)))
theorem mul_bd {a b m n : Int} (ha : -m ≤ a ∧ a ≤ m) (hb : -n ≤ b ∧ b ≤ n) : -(m * n) ≤ a * b ∧ a * b ≤ m * n := by
  have hm : 0 ≤ m := by omega
  have hn : 0 ≤ n := by omega
  have h1 : (a * b).natAbs ≤ (m * n).natAbs := by
    rw [Int.natAbs_mul, Int.natAbs_mul]
    exact Nat.mul_le_mul (by omega) (by omega)
  have h2 : 0 ≤ m * n := Int.mul_nonneg hm hn
  omega
def cor (l : List Pt) (i : Nat) : Pt := l.getD (i % l.length) ⟨0, 0⟩
def turnB (l : List Pt) (i : Nat) : Bool := decide (0 < sideW (cor l i) (cor l (i + 1)) (cor l (i + 2)))
def fanB (l : List Pt) (i : Nat) : Bool := decide (l.length ≤ i + 1) || decide (0 ≤ sideW (cor l 0) (cor l i) (cor l (i + 1)))
def stoneB (l : List Pt) : Bool := inR l.length 3 6 && (l.all ptOk && (List.range l.length).all fun i => turnB l i && fanB l i)

theorem rem_at (i j n : Nat) : ((i : Int) + j).tmod (n : Int) = (((i + j) % n : Nat) : Int) := by
  rw [Int.tmod_eq_emod_of_nonneg (by omega)]
  norm_cast
theorem cor_at {l : List Pt} {i : Nat} (h : 0 < l.length) : l[i % l.length]? = some (cor l i) := by
  have : i % l.length < l.length := Nat.mod_lt _ h
  simp [cor, this]
theorem cor_lt {l : List Pt} {i : Nat} (h : i < l.length) : l[i]? = some (cor l i) := by
  have := cor_at (l := l) (i := i) (by omega)
  rwa [Nat.mod_eq_of_lt h] at this
theorem all_range_succ (f : Nat → Bool) (n : Nat) : (List.range (n + 1)).all f = ((List.range n).all f && f n) := by
  rw [List.range_succ, List.all_append]; simp
theorem all_range_false {f : Nat → Bool} {n i : Nat} (hi : i < n) (h : f i = false) : (List.range n).all f = false := by
  rw [Bool.eq_false_iff]
  intro h2
  rw [List.all_eq_true] at h2
  have := h2 i (List.mem_range.2 hi)
  rw [h] at this; cases this
theorem all_take_succ {α : Type} {f : α → Bool} {l : List α} {i : Nat} {p : α} (h : l[i]? = some p) : (l.take (i + 1)).all f = ((l.take i).all f && f p) := by
  rw [List.take_add_one, h]; simp
theorem all_at_false {α : Type} {f : α → Bool} {l : List α} {i : Nat} {p : α} (h : l[i]? = some p) (hp : f p = false) : l.all f = false := by
  rw [Bool.eq_false_iff]
  intro h2
  rw [List.all_eq_true] at h2
  have := h2 p (List.mem_of_getElem? h)
  rw [hp] at this; cases this
end Go.Proofs.YtkaffcdjhbaifaaGreat

namespace Go.Proofs.YtkaffcdjhbaifaaGreat
open Go.Eng
set_option maxRecDepth 100000
attribute [local irreducible] QV TV WL HW W CallOk Weak

abbrev u8r (x : Int) : List AV := [.v (.int .u8 x)]
abbrev slU (l : List Int) : AV := .sl 1 (l.map u8r)
def isU8 (x : Int) : Prop := 0 ≤ x ∧ x ≤ 255
def CurR (l : List Int) (cs : List AV) : Prop := ∃ (i : Nat) (h : Int), cs = [slU l, vi i, vi h]
structure Bts (l : List Int) : Prop where
  u : ∀ x ∈ l, isU8 x
  n : l.length ≤ 1048576
@[reducible] def ByteR (l : List Int) (n : Int) (r : AV) (cs : List AV) : Prop := ∃ x : Int, 0 ≤ x ∧ x < n ∧ r = vi x ∧ CurR l cs
instance tyC : TyOk Tryz.prog 73 true 3 := ⟨fun _ => by kernel_rfl, fun _ => by kernel_rfl⟩
instance zeC : ZeroOk Tryz.prog 73 (.agg #[.slice none 0 0, .int .i64 0, .int .i64 0]) := ⟨fun _ => by kernel_rfl⟩
instance flC0 : FldOk Tryz.prog 73 0 0 false 1 := ⟨⟨_, _, Tryz.underlying73, rfl, rfl, (inferInstance : TyOk Tryz.prog 22 false 1)⟩, by decide⟩
instance flC1 : FldOk Tryz.prog 73 1 1 false 1 := ⟨⟨_, _, Tryz.underlying73, rfl, rfl, (inferInstance : TyOk Tryz.prog 3 false 1)⟩, by decide⟩
instance flC2 : FldOk Tryz.prog 73 2 2 false 1 := ⟨⟨_, _, Tryz.underlying73, rfl, rfl, (inferInstance : TyOk Tryz.prog 3 false 1)⟩, by decide⟩
instance zcC : ZcOk Tryz.prog 73 [.v (.slice none 0 0), .v (.int .i64 0), .v (.int .i64 0)] := ⟨_, zeC, rfl⟩
instance blC : BldOk Tryz.prog 73 [.slice none 0 0, .int .i64 0, .int .i64 0] [(0, 1), (1, 1), (2, 1)] := ⟨_, _, zeC.zero, rfl, Tryz.underlying73, fun _ => by kernel_rfl⟩
theorem l01New_ok (l : List Int) (hl : Bts l) : CallMake Tryz.prog 16 [slU l] (CurR l) := by
  have hn := hl.n
  refine callMake Tryz.func16 Tryz.ntmps16 Tryz.results16 rfl rfl rfl fun B w0 I0 => ?_
  (repeat (first | refine WL_nil ?_ | (apply wl0 (hd := rfl); (first | exact qv9); (exact gy0)) | (apply wlb (hd := rfl); exact qbx; (exact gy0); rfl) | refine wln ⟨_, rfl, rfl⟩ rfl ?_ | refine wlnu ⟨_, rfl, rfl⟩ rfl ?_ | refine wst rfl rfl rfl List.not_mem_nil rfl rfl rfl rfl rfl rfl ?_ | refine W_condT rfl ?_ | refine W_condF rfl ?_ | refine W_region ?_ | refine wN rfl ?_))
  refine W_loop (fun n s => ∃ (k : Nat) (h : Int), k ≤ l.length ∧ n = l.length - k ∧ s = ⟨[(0, slU l), (3, vi h), (4, vi k)], [], []⟩) ⟨_, _, ⟨0, _, Nat.zero_le _, rfl, rfl⟩, wkA⟩ ?_
  rintro n s ⟨k, h, hk, rfl, rfl⟩
  by_cases hlt : k < l.length
  · obtain ⟨x, hx⟩ : ∃ x, l[k]? = some x := ⟨_, List.getElem?_eq_getElem hlt⟩
    have hxu := hl.u x (List.mem_of_getElem? hx)
    have h8 : -9223372036854775808 ≤ x ∧ x ≤ 9223372036854775807 := by unfold isU8 at hxu; omega
    obtain ⟨y, hy⟩ := bitsAny .and (W64 (W64 (W64 (h * 131) + x) + 7)) 1073741823 (.inl rfl)
    have c1 : abin .lss .i64 (k : Int) (l.length : Int) = some (.bool true) := by simp [abin]; omega
    (repeat (first | refine WL_nil ?_ | (apply wl0 (hd := rfl); (first | exact QV_bin rfl rfl c1 | exact qv9); (exact gy0)) | (apply wlb (hd := rfl); exact qbx; (exact gy0); rfl) | refine wln ⟨_, rfl, rfl⟩ rfl ?_ | refine wlnu ⟨_, rfl, rfl⟩ rfl ?_ | refine wst rfl rfl rfl List.not_mem_nil rfl rfl rfl rfl rfl rfl ?_ | refine W_condT rfl ?_ | refine W_condF rfl ?_ | refine W_region ?_ | refine wN rfl ?_))
    (refine W_cond rfl (fun hc => ?_) (fun hc => ?_))
    · (repeat (first | refine WL_nil ?_ | (apply wl0 (hd := rfl); (first | exact qv9 | exact QV_indexAddr rfl rfl rfl rfl (row_at hx) | exact q_convE Tryz.underlying5 Tryz.underlying3 rfl (i64w h8) | exact QV_bits rfl rfl hy); (exact gy0)) | (apply wlb (hd := rfl); exact qbx; (exact gy0); rfl) | refine wln ⟨_, rfl, rfl⟩ rfl ?_ | refine wlnu ⟨_, rfl, rfl⟩ rfl ?_ | refine wst rfl rfl rfl List.not_mem_nil rfl rfl rfl rfl rfl rfl ?_ | refine W_condT rfl ?_ | refine W_condF rfl ?_ | refine W_region ?_ | refine wN rfl ?_))
      refine Exists.intro _ (Exists.intro _ ⟨?_, ⟨k + 1, y, by omega, rfl, rfl⟩, wkA⟩)
      omega
    · (repeat (first | refine WL_nil ?_ | (apply wl0 (hd := rfl); (first | exact qv9); (exact gy0)) | (apply wlb (hd := rfl); exact qbx; (exact gy0); rfl) | refine wln ⟨_, rfl, rfl⟩ rfl ?_ | refine wlnu ⟨_, rfl, rfl⟩ rfl ?_ | refine wst rfl rfl rfl List.not_mem_nil rfl rfl rfl rfl rfl rfl ?_ | refine W_condT rfl ?_ | refine W_condF rfl ?_ | refine W_region ?_ | refine wN rfl ?_))
      refine makeEnd (resA_tmp rfl rfl) rfl rfl ?_
      exact ⟨0, h, rfl⟩
  · have c1 : abin .lss .i64 (k : Int) (l.length : Int) = some (.bool false) := by simp [abin]; omega
    (repeat (first | refine WL_nil ?_ | (apply wl0 (hd := rfl); (first | exact QV_bin rfl rfl c1 | exact qv9); (exact gy0)) | (apply wlb (hd := rfl); exact qbx; (exact gy0); rfl) | refine wln ⟨_, rfl, rfl⟩ rfl ?_ | refine wlnu ⟨_, rfl, rfl⟩ rfl ?_ | refine wst rfl rfl rfl List.not_mem_nil rfl rfl rfl rfl rfl rfl ?_ | refine W_condT rfl ?_ | refine W_condF rfl ?_ | refine W_region ?_ | refine wN rfl ?_))
    refine makeEnd (resA_tmp rfl rfl) rfl rfl ?_
    exact ⟨0, h, rfl⟩
theorem l01Byte_ok (l : List Int) (hl : Bts l) (i : Nat) (h : Int) : CallPtr Tryz.prog 54 [.ptr 1000000 0] [slU l, vi i, vi h] (ByteR l 256) := by
  have hn := hl.n
  obtain ⟨h1, eh⟩ : ∃ h1, h1 = W64 (W64 (h * 6364136223846793005) + 1442695040888963407) := ⟨_, rfl⟩
  have g1 : abin .mul .i64 h 6364136223846793005 = some (.int .i64 (W64 (h * 6364136223846793005))) := rfl
  have g2 : abin .add .i64 (W64 (h * 6364136223846793005)) 1442695040888963407 = some (.int .i64 h1) := by rw [eh]; rfl
  obtain ⟨u, eu⟩ : ∃ u, u = h1.fdiv (2 ^ min (33 : Int).toNat IntKind.i64.bits) := ⟨_, rfl⟩
  obtain ⟨v, ev⟩ : ∃ v, v = h1.fdiv (2 ^ min (45 : Int).toNat IntKind.i64.bits) := ⟨_, rfl⟩
  obtain ⟨x1, hx1⟩ := bitsAny .xor u v (.inr rfl)
  obtain ⟨x2, hx2, h20, h21⟩ := bits255 (op := .and) (a := x1) rfl
  refine callPtr Tryz.func54 Tryz.ntmps54 Tryz.results54 rfl rfl rfl fun B w0 b T I0 => ?_
  (repeat (first | refine WL_nil ?_ | (apply wl0 (hd := rfl); (first | exact QV_bin rfl rfl g1 | exact QV_bin rfl rfl g2 | exact qv9); (exact gy0)) | (apply wlb (hd := rfl); exact qbx; (exact gy0); rfl) | refine wln ⟨_, rfl, rfl⟩ rfl ?_ | refine wlnu ⟨_, rfl, rfl⟩ rfl ?_ | refine wst rfl rfl rfl List.not_mem_nil rfl rfl rfl rfl rfl rfl ?_ | refine W_condT rfl ?_ | refine W_condF rfl ?_ | refine W_region ?_ | refine wN rfl ?_))
  refine wdraw 13 (by kernel_rfl) (by kernel_rfl) (by kernel_rfl) rfl ?_
  (repeat (first | refine HW_nil ?_ | (apply hw0 (hd := rfl); (first | exact qv9 | exact QV_shr rfl rfl (by decide) eu.symm | exact QV_shr rfl rfl (by decide) ev.symm | exact QV_bits rfl rfl hx1 | exact QV_bits rfl rfl hx2); (exact gy0)) | (apply hwb (hd := rfl); exact qbx; (exact gy0); rfl) | refine hwn ⟨_, rfl, rfl⟩ rfl ?_ | refine hwnu ⟨_, rfl, rfl⟩ rfl ?_))
  (repeat (first | refine WL_nil ?_ | (apply wl0 (hd := rfl); (first | exact qv9); (exact gy0)) | (apply wlb (hd := rfl); exact qbx; (exact gy0); rfl) | refine wln ⟨_, rfl, rfl⟩ rfl ?_ | refine wlnu ⟨_, rfl, rfl⟩ rfl ?_ | refine wst rfl rfl rfl List.not_mem_nil rfl rfl rfl rfl rfl rfl ?_ | refine W_condT rfl ?_ | refine W_condF rfl ?_ | refine W_region ?_ | refine wN rfl ?_))
  refine wdraw 10 (by kernel_rfl) (by kernel_rfl) (by kernel_rfl) rfl ?_
  (repeat (first | refine HW_nil ?_ | (apply hw0 (hd := rfl); (first | exact qv9); (exact gy0)) | (apply hwb (hd := rfl); exact qbx; (exact gy0); rfl) | refine hwn ⟨_, rfl, rfl⟩ rfl ?_ | refine hwnu ⟨_, rfl, rfl⟩ rfl ?_))
  (repeat (first | refine WL_nil ?_ | (apply wl0 (hd := rfl); (first | exact qv9); (exact gy0)) | (apply wlb (hd := rfl); exact qbx; (exact gy0); rfl) | refine wln ⟨_, rfl, rfl⟩ rfl ?_ | refine wlnu ⟨_, rfl, rfl⟩ rfl ?_ | refine wst rfl rfl rfl List.not_mem_nil rfl rfl rfl rfl rfl rfl ?_ | refine W_condT rfl ?_ | refine W_condF rfl ?_ | refine W_region ?_ | refine wN rfl ?_))
  (refine W_cond rfl (fun hc => ?_) (fun hc => ?_))
  · have hlt : i < l.length := by simpa using hc
    obtain ⟨x, hx⟩ : ∃ x, l[i]? = some x := ⟨_, List.getElem?_eq_getElem hlt⟩
    have hxu := hl.u x (List.mem_of_getElem? hx)
    unfold isU8 at hxu
    obtain ⟨x3, hx3, h30, h31⟩ := bits255 (op := .and) (a := x2 + x) rfl
    (repeat (first | refine WL_nil ?_ | (apply wl0 (hd := rfl); (first | exact qv9); (exact gy0)) | (apply wlb (hd := rfl); exact qbx; (exact gy0); rfl) | refine wln ⟨_, rfl, rfl⟩ rfl ?_ | refine wlnu ⟨_, rfl, rfl⟩ rfl ?_ | refine wst rfl rfl rfl List.not_mem_nil rfl rfl rfl rfl rfl rfl ?_ | refine W_condT rfl ?_ | refine W_condF rfl ?_ | refine W_region ?_ | refine wN rfl ?_))
    refine wdraw 15 (by kernel_rfl) (by kernel_rfl) (by kernel_rfl) rfl ?_
    (repeat (first | refine HW_nil ?_ | (apply hw0 (hd := rfl); (first | exact qv9 | exact QV_indexAddr rfl rfl rfl rfl (row_at hx) | exact q_convE Tryz.underlying5 Tryz.underlying3 rfl (i64w (by omega)) | exact QV_bits rfl rfl hx3); (exact gy0)) | (apply hwb (hd := rfl); exact qbx; (exact gy0); rfl) | refine hwn ⟨_, rfl, rfl⟩ rfl ?_ | refine hwnu ⟨_, rfl, rfl⟩ rfl ?_))
    (repeat (first | refine WL_nil ?_ | (apply wl0 (hd := rfl); (first | exact qv9); (exact gy0)) | (apply wlb (hd := rfl); exact qbx; (exact gy0); rfl) | refine wln ⟨_, rfl, rfl⟩ rfl ?_ | refine wlnu ⟨_, rfl, rfl⟩ rfl ?_ | refine wst rfl rfl rfl List.not_mem_nil rfl rfl rfl rfl rfl rfl ?_ | refine W_condT rfl ?_ | refine W_condF rfl ?_ | refine W_region ?_ | refine wN rfl ?_))
    refine ptrEnd (Weak.refl _) (resA_tmp rfl rfl) rfl rfl rfl ?_
    exact ⟨x3, h30, by omega, rfl, i + 1, h1, rfl⟩
  · (repeat (first | refine WL_nil ?_ | (apply wl0 (hd := rfl); (first | exact qv9); (exact gy0)) | (apply wlb (hd := rfl); exact qbx; (exact gy0); rfl) | refine wln ⟨_, rfl, rfl⟩ rfl ?_ | refine wlnu ⟨_, rfl, rfl⟩ rfl ?_ | refine wst rfl rfl rfl List.not_mem_nil rfl rfl rfl rfl rfl rfl ?_ | refine W_condT rfl ?_ | refine W_condF rfl ?_ | refine W_region ?_ | refine wN rfl ?_))
    refine ptrEnd (Weak.refl _) (resA_tmp rfl rfl) rfl rfl rfl ?_
    exact ⟨x2, h20, by omega, rfl, i, h1, rfl⟩
theorem byteR_own {l : List Int} {n : Int} : ∀ r cs, ByteR l n r cs → ownsIn [] r = true ∧ dtL cs = true := by
  rintro r cs ⟨x, _, _, rfl, i, h, rfl⟩
  exact ⟨rfl, rfl⟩
section
variable {E : En} {ops : Array Oper} {rest : List Oper} {Q : Exit → St → Prop} {tm : List (Nat × AV)} {bl : List (Nat × List AV)} {ow : List Nat} {d : Nat} {ty : TypeId} {pos : String} {af : Array Edge}
theorem wldraw {x : Operand} {xs : Array Operand} {ts : Array TypeId} {f N : Nat} {args cs : List AV} {l : List Int} {n : Int} [hf : FnOk E.P f] (h : CallPtr E.P f args cs (ByteR l n)) (hx : ev tm x = .v (.func (.func f) #[] #[])) (ha : PtA N (xs.toList.map (ev tm)) args) (hb : lookB bl N = some cs) (hcs : dtL cs = true) (hro : N ∉ E.ron) (hd : Nat.blt d E.nt = true)
    (hk : ∀ (x : Int) (i : Nat) (h : Int), 0 ≤ x → x < n → WL E ops rest Q ⟨(d, vi x) :: tm, setB bl N [slU l, vi i, vi h], ow⟩) (hn7 : Nat.blt N 7000000 = true := by rfl) : WL E ops (⟨some d, .call ⟨.value x, xs, ts⟩, ty, pos, af, none⟩ :: rest) Q ⟨tm, bl, ow⟩ :=
  wlptr 0 [] h hx ha hb hcs hro byteR_own rfl hd (fun r cs' ⟨x, h0, h1, hr, i, h', hc⟩ => by
    subst hr; subst hc
    exact hk x i h' h0 h1) hn7
end
theorem l01Below_ok (l : List Int) (hl : Bts l) (n : Int) (hn0 : 0 < n) (hn : n ≤ 10000) (i : Nat) (h : Int) : CallPtr Tryz.prog 34 [.ptr 1000000 0, vi n] [slU l, vi i, vi h] (ByteR l n) := by
  have c1 : abin .leq .i64 n 0 = some (.bool false) := by simp [abin]; omega
  have hne : n ≠ 0 := by omega
  by_cases hle : n ≤ 256
  · have c2 : abin .leq .i64 n 256 = some (.bool true) := by simp [abin]; omega
    refine callPtr Tryz.func34 Tryz.ntmps34 Tryz.results34 rfl rfl rfl fun B w0 b T I0 => ?_
    (repeat (first | refine WL_nil ?_ | (apply wl0 (hd := rfl); (first | exact QV_bin rfl rfl c1 | exact QV_bin rfl rfl c2 | exact qv9); (exact gy0)) | (apply wlb (hd := rfl); exact qbx; (exact gy0); rfl) | refine wln ⟨_, rfl, rfl⟩ rfl ?_ | refine wlnu ⟨_, rfl, rfl⟩ rfl ?_ | refine wst rfl rfl rfl List.not_mem_nil rfl rfl rfl rfl rfl rfl ?_ | refine W_condT rfl ?_ | refine W_condF rfl ?_ | refine W_region ?_ | refine wN rfl ?_))
    refine wldraw (l01Byte_ok l hl i h) rfl (by repeat' (first | exact PtA.nil | refine PtA.ptr ?_ | refine PtA.v ?_)) rfl rfl List.not_mem_nil rfl (fun x i1 h1 hx0 hx1 => ?_)
    have hr : adv .rem .i64 x n = some (.int .i64 (x.tmod n)) := rfl
    (repeat (first | refine WL_nil ?_ | (apply wl0 (hd := rfl); (first | exact qv9 | exact QV_div rfl rfl hne hr); (exact gy0)) | (apply wlb (hd := rfl); exact qbx; (exact gy0); rfl) | refine wln ⟨_, rfl, rfl⟩ rfl ?_ | refine wlnu ⟨_, rfl, rfl⟩ rfl ?_ | refine wst rfl rfl rfl List.not_mem_nil rfl rfl rfl rfl rfl rfl ?_ | refine W_condT rfl ?_ | refine W_condF rfl ?_ | refine W_region ?_ | refine wN rfl ?_))
    refine ptrEnd (Weak.refl _) (resA_tmp rfl rfl) rfl rfl rfl ?_
    exact ⟨x.tmod n, Int.tmod_nonneg _ hx0, Int.tmod_lt_of_pos _ hn0, rfl, i1, h1, rfl⟩
  · have c2 : abin .leq .i64 n 256 = some (.bool false) := by simp [abin]; omega
    refine callPtr Tryz.func34 Tryz.ntmps34 Tryz.results34 rfl rfl rfl fun B w0 b T I0 => ?_
    (repeat (first | refine WL_nil ?_ | (apply wl0 (hd := rfl); (first | exact QV_bin rfl rfl c1 | exact QV_bin rfl rfl c2 | exact qv9); (exact gy0)) | (apply wlb (hd := rfl); exact qbx; (exact gy0); rfl) | refine wln ⟨_, rfl, rfl⟩ rfl ?_ | refine wlnu ⟨_, rfl, rfl⟩ rfl ?_ | refine wst rfl rfl rfl List.not_mem_nil rfl rfl rfl rfl rfl rfl ?_ | refine W_condT rfl ?_ | refine W_condF rfl ?_ | refine W_region ?_ | refine wN rfl ?_))
    refine wldraw (l01Byte_ok l hl i h) rfl (by repeat' (first | exact PtA.nil | refine PtA.ptr ?_ | refine PtA.v ?_)) rfl rfl List.not_mem_nil rfl (fun x i1 h1 hx0 hx1 => ?_)
    (repeat (first | refine WL_nil ?_ | (apply wl0 (hd := rfl); (first | exact qv9); (exact gy0)) | (apply wlb (hd := rfl); exact qbx; (exact gy0); rfl) | refine wln ⟨_, rfl, rfl⟩ rfl ?_ | refine wlnu ⟨_, rfl, rfl⟩ rfl ?_ | refine wst rfl rfl rfl List.not_mem_nil rfl rfl rfl rfl rfl rfl ?_ | refine W_condT rfl ?_ | refine W_condF rfl ?_ | refine W_region ?_ | refine wN rfl ?_))
    refine wldraw (l01Byte_ok l hl i1 h1) rfl (by repeat' (first | exact PtA.nil | refine PtA.ptr ?_ | refine PtA.v ?_)) rfl rfl List.not_mem_nil rfl (fun y i2 h2 hy0 hy1 => ?_)
    (repeat (first | refine WL_nil ?_ | (apply wl0 (hd := rfl); (first | exact qv9); (exact gy0)) | (apply wlb (hd := rfl); exact qbx; (exact gy0); rfl) | refine wln ⟨_, rfl, rfl⟩ rfl ?_ | refine wlnu ⟨_, rfl, rfl⟩ rfl ?_ | refine wst rfl rfl rfl List.not_mem_nil rfl rfl rfl rfl rfl rfl ?_ | refine W_condT rfl ?_ | refine W_condF rfl ?_ | refine W_region ?_ | refine wN rfl ?_))
    refine wldraw (l01Byte_ok l hl i2 h2) rfl (by repeat' (first | exact PtA.nil | refine PtA.ptr ?_ | refine PtA.v ?_)) rfl rfl List.not_mem_nil rfl (fun z i3 h3 hz0 hz1 => ?_)
    (repeat (first | refine WL_nil ?_ | (apply wl0 (hd := rfl); (first | exact qv9); (exact gy0)) | (apply wlb (hd := rfl); exact qbx; (exact gy0); rfl) | refine wln ⟨_, rfl, rfl⟩ rfl ?_ | refine wlnu ⟨_, rfl, rfl⟩ rfl ?_ | refine wst rfl rfl rfl List.not_mem_nil rfl rfl rfl rfl rfl rfl ?_ | refine W_condT rfl ?_ | refine W_condF rfl ?_ | refine W_region ?_ | refine wN rfl ?_))
    refine wldraw (l01Byte_ok l hl i3 h3) rfl (by repeat' (first | exact PtA.nil | refine PtA.ptr ?_ | refine PtA.v ?_)) rfl rfl List.not_mem_nil rfl (fun u i4 h4 hu0 hu1 => ?_)
    have hr : adv .rem .i64 (x * 16777216 + y * 65536 + z * 256 + u) n = some (.int .i64 ((x * 16777216 + y * 65536 + z * 256 + u).tmod n)) := rfl
    (repeat (first | refine WL_nil ?_ | (apply wl0 (hd := rfl); (first | exact qv9 | exact QV_div rfl rfl hne hr); (exact gy0)) | (apply wlb (hd := rfl); exact qbx; (exact gy0); rfl) | refine wln ⟨_, rfl, rfl⟩ rfl ?_ | refine wlnu ⟨_, rfl, rfl⟩ rfl ?_ | refine wst rfl rfl rfl List.not_mem_nil rfl rfl rfl rfl rfl rfl ?_ | refine W_condT rfl ?_ | refine W_condF rfl ?_ | refine W_region ?_ | refine wN rfl ?_))
    refine ptrEnd (Weak.refl _) (resA_tmp rfl rfl) rfl rfl rfl ?_
    exact ⟨_, Int.tmod_nonneg _ (by omega), Int.tmod_lt_of_pos _ hn0, rfl, i4, h4, rfl⟩
end Go.Proofs.YtkaffcdjhbaifaaGreat

namespace Go.Proofs.YtkaffcdjhbaifaaGreat
open Go.Eng
set_option maxRecDepth 100000
attribute [local irreducible] QV TV WL HW W CallOk Weak

@[reducible] def DetR (l : List Int) (x : Int) (i : Nat) (h : Int) (r : AV) (cs : List AV) : Prop := r = vi x ∧ cs = [slU l, vi i, vi h]
def DrawsD (f : Nat) (args : List AV) (l : List Int) (i : Nat) (h n : Int) : Prop :=
  ∃ (x : Int) (i1 : Nat) (h1 : Int), 0 ≤ x ∧ x < n ∧ CallPtr Tryz.prog f args [slU l, vi i, vi h] (DetR l x i1 h1)
theorem l01Byte_det (l : List Int) (hl : Bts l) (i : Nat) (h : Int) : DrawsD 54 [.ptr 1000000 0] l i h 256 := by
  have hn := hl.n
  obtain ⟨h1, eh⟩ : ∃ h1, h1 = W64 (W64 (h * 6364136223846793005) + 1442695040888963407) := ⟨_, rfl⟩
  have g1 : abin .mul .i64 h 6364136223846793005 = some (.int .i64 (W64 (h * 6364136223846793005))) := rfl
  have g2 : abin .add .i64 (W64 (h * 6364136223846793005)) 1442695040888963407 = some (.int .i64 h1) := by rw [eh]; rfl
  obtain ⟨u, eu⟩ : ∃ u, u = h1.fdiv (2 ^ min (33 : Int).toNat IntKind.i64.bits) := ⟨_, rfl⟩
  obtain ⟨v, ev⟩ : ∃ v, v = h1.fdiv (2 ^ min (45 : Int).toNat IntKind.i64.bits) := ⟨_, rfl⟩
  obtain ⟨x1, hx1⟩ := bitsAny .xor u v (.inr rfl)
  obtain ⟨x2, hx2, h20, h21⟩ := bits255 (op := .and) (a := x1) rfl
  by_cases hlt : i < l.length
  · obtain ⟨x, hx⟩ : ∃ x, l[i]? = some x := ⟨_, List.getElem?_eq_getElem hlt⟩
    have hxu := hl.u x (List.mem_of_getElem? hx)
    unfold isU8 at hxu
    obtain ⟨x3, hx3, h30, h31⟩ := bits255 (op := .and) (a := x2 + x) rfl
    have c1 : abin .lss .i64 (i : Int) (l.length : Int) = some (.bool true) := by simp [abin]; omega
    refine ⟨x3, i + 1, h1, h30, by omega, ?_⟩
    refine callPtr Tryz.func54 Tryz.ntmps54 Tryz.results54 rfl rfl rfl fun B w0 b T I0 => ?_
    (repeat (first | refine WL_nil ?_ | (apply wl0 (hd := rfl); (first | exact QV_bin rfl rfl g1 | exact QV_bin rfl rfl g2 | exact qv9); (exact gy0)) | (apply wlb (hd := rfl); exact qbx; (exact gy0); rfl) | refine wln ⟨_, rfl, rfl⟩ rfl ?_ | refine wlnu ⟨_, rfl, rfl⟩ rfl ?_ | refine wst rfl rfl rfl List.not_mem_nil rfl rfl rfl rfl rfl rfl ?_ | refine W_condT rfl ?_ | refine W_condF rfl ?_ | refine W_region ?_ | refine wN rfl ?_))
    refine wdraw 13 (by kernel_rfl) (by kernel_rfl) (by kernel_rfl) rfl ?_
    (repeat (first | refine HW_nil ?_ | (apply hw0 (hd := rfl); (first | exact qv9 | exact QV_shr rfl rfl (by decide) eu.symm | exact QV_shr rfl rfl (by decide) ev.symm | exact QV_bits rfl rfl hx1 | exact QV_bits rfl rfl hx2); (exact gy0)) | (apply hwb (hd := rfl); exact qbx; (exact gy0); rfl) | refine hwn ⟨_, rfl, rfl⟩ rfl ?_ | refine hwnu ⟨_, rfl, rfl⟩ rfl ?_))
    (repeat (first | refine WL_nil ?_ | (apply wl0 (hd := rfl); (first | exact qv9); (exact gy0)) | (apply wlb (hd := rfl); exact qbx; (exact gy0); rfl) | refine wln ⟨_, rfl, rfl⟩ rfl ?_ | refine wlnu ⟨_, rfl, rfl⟩ rfl ?_ | refine wst rfl rfl rfl List.not_mem_nil rfl rfl rfl rfl rfl rfl ?_ | refine W_condT rfl ?_ | refine W_condF rfl ?_ | refine W_region ?_ | refine wN rfl ?_))
    refine wdraw 10 (by kernel_rfl) (by kernel_rfl) (by kernel_rfl) rfl ?_
    (repeat (first | refine HW_nil ?_ | (apply hw0 (hd := rfl); (first | exact QV_bin rfl rfl c1 | exact qv9); (exact gy0)) | (apply hwb (hd := rfl); exact qbx; (exact gy0); rfl) | refine hwn ⟨_, rfl, rfl⟩ rfl ?_ | refine hwnu ⟨_, rfl, rfl⟩ rfl ?_))
    (repeat (first | refine WL_nil ?_ | (apply wl0 (hd := rfl); (first | exact QV_bin rfl rfl c1 | exact qv9); (exact gy0)) | (apply wlb (hd := rfl); exact qbx; (exact gy0); rfl) | refine wln ⟨_, rfl, rfl⟩ rfl ?_ | refine wlnu ⟨_, rfl, rfl⟩ rfl ?_ | refine wst rfl rfl rfl List.not_mem_nil rfl rfl rfl rfl rfl rfl ?_ | refine W_condT rfl ?_ | refine W_condF rfl ?_ | refine W_region ?_ | refine wN rfl ?_))
    refine wdraw 15 (by kernel_rfl) (by kernel_rfl) (by kernel_rfl) rfl ?_
    (repeat (first | refine HW_nil ?_ | (apply hw0 (hd := rfl); (first | exact qv9 | exact QV_indexAddr rfl rfl rfl rfl (row_at hx) | exact q_convE Tryz.underlying5 Tryz.underlying3 rfl (i64w (by omega)) | exact QV_bits rfl rfl hx3); (exact gy0)) | (apply hwb (hd := rfl); exact qbx; (exact gy0); rfl) | refine hwn ⟨_, rfl, rfl⟩ rfl ?_ | refine hwnu ⟨_, rfl, rfl⟩ rfl ?_))
    (repeat (first | refine WL_nil ?_ | (apply wl0 (hd := rfl); (first | exact qv9); (exact gy0)) | (apply wlb (hd := rfl); exact qbx; (exact gy0); rfl) | refine wln ⟨_, rfl, rfl⟩ rfl ?_ | refine wlnu ⟨_, rfl, rfl⟩ rfl ?_ | refine wst rfl rfl rfl List.not_mem_nil rfl rfl rfl rfl rfl rfl ?_ | refine W_condT rfl ?_ | refine W_condF rfl ?_ | refine W_region ?_ | refine wN rfl ?_))
    refine ptrEnd (Weak.refl _) (resA_tmp rfl rfl) rfl rfl rfl ?_
    exact ⟨rfl, rfl⟩
  · have c1 : abin .lss .i64 (i : Int) (l.length : Int) = some (.bool false) := by simp [abin]; omega
    refine ⟨x2, i, h1, h20, by omega, ?_⟩
    refine callPtr Tryz.func54 Tryz.ntmps54 Tryz.results54 rfl rfl rfl fun B w0 b T I0 => ?_
    (repeat (first | refine WL_nil ?_ | (apply wl0 (hd := rfl); (first | exact QV_bin rfl rfl g1 | exact QV_bin rfl rfl g2 | exact qv9); (exact gy0)) | (apply wlb (hd := rfl); exact qbx; (exact gy0); rfl) | refine wln ⟨_, rfl, rfl⟩ rfl ?_ | refine wlnu ⟨_, rfl, rfl⟩ rfl ?_ | refine wst rfl rfl rfl List.not_mem_nil rfl rfl rfl rfl rfl rfl ?_ | refine W_condT rfl ?_ | refine W_condF rfl ?_ | refine W_region ?_ | refine wN rfl ?_))
    refine wdraw 13 (by kernel_rfl) (by kernel_rfl) (by kernel_rfl) rfl ?_
    (repeat (first | refine HW_nil ?_ | (apply hw0 (hd := rfl); (first | exact qv9 | exact QV_shr rfl rfl (by decide) eu.symm | exact QV_shr rfl rfl (by decide) ev.symm | exact QV_bits rfl rfl hx1 | exact QV_bits rfl rfl hx2); (exact gy0)) | (apply hwb (hd := rfl); exact qbx; (exact gy0); rfl) | refine hwn ⟨_, rfl, rfl⟩ rfl ?_ | refine hwnu ⟨_, rfl, rfl⟩ rfl ?_))
    (repeat (first | refine WL_nil ?_ | (apply wl0 (hd := rfl); (first | exact qv9); (exact gy0)) | (apply wlb (hd := rfl); exact qbx; (exact gy0); rfl) | refine wln ⟨_, rfl, rfl⟩ rfl ?_ | refine wlnu ⟨_, rfl, rfl⟩ rfl ?_ | refine wst rfl rfl rfl List.not_mem_nil rfl rfl rfl rfl rfl rfl ?_ | refine W_condT rfl ?_ | refine W_condF rfl ?_ | refine W_region ?_ | refine wN rfl ?_))
    refine wdraw 10 (by kernel_rfl) (by kernel_rfl) (by kernel_rfl) rfl ?_
    (repeat (first | refine HW_nil ?_ | (apply hw0 (hd := rfl); (first | exact QV_bin rfl rfl c1 | exact qv9); (exact gy0)) | (apply hwb (hd := rfl); exact qbx; (exact gy0); rfl) | refine hwn ⟨_, rfl, rfl⟩ rfl ?_ | refine hwnu ⟨_, rfl, rfl⟩ rfl ?_))
    (repeat (first | refine WL_nil ?_ | (apply wl0 (hd := rfl); (first | exact QV_bin rfl rfl c1 | exact qv9); (exact gy0)) | (apply wlb (hd := rfl); exact qbx; (exact gy0); rfl) | refine wln ⟨_, rfl, rfl⟩ rfl ?_ | refine wlnu ⟨_, rfl, rfl⟩ rfl ?_ | refine wst rfl rfl rfl List.not_mem_nil rfl rfl rfl rfl rfl rfl ?_ | refine W_condT rfl ?_ | refine W_condF rfl ?_ | refine W_region ?_ | refine wN rfl ?_))
    refine ptrEnd (Weak.refl _) (resA_tmp rfl rfl) rfl rfl rfl ?_
    exact ⟨rfl, rfl⟩
theorem l01Below_det (l : List Int) (hl : Bts l) (n : Int) (hn0 : 0 < n) (hle : n ≤ 256) (i : Nat) (h : Int) : DrawsD 34 [.ptr 1000000 0, vi n] l i h n := by
  have c1 : abin .leq .i64 n 0 = some (.bool false) := by simp [abin]; omega
  have c2 : abin .leq .i64 n 256 = some (.bool true) := by simp [abin]; omega
  have hne : n ≠ 0 := by omega
  obtain ⟨x, i1, h1, hx0, hx1, cx⟩ := l01Byte_det l hl i h
  have hr : adv .rem .i64 x n = some (.int .i64 (x.tmod n)) := rfl
  refine ⟨x.tmod n, i1, h1, Int.tmod_nonneg _ hx0, Int.tmod_lt_of_pos _ hn0, ?_⟩
  refine callPtr Tryz.func34 Tryz.ntmps34 Tryz.results34 rfl rfl rfl fun B w0 b T I0 => ?_
  (repeat (first | refine WL_nil ?_ | (apply wl0 (hd := rfl); (first | exact QV_bin rfl rfl c1 | exact QV_bin rfl rfl c2 | exact qv9); (exact gy0)) | (apply wlb (hd := rfl); exact qbx; (exact gy0); rfl) | refine wln ⟨_, rfl, rfl⟩ rfl ?_ | refine wlnu ⟨_, rfl, rfl⟩ rfl ?_ | refine wst rfl rfl rfl List.not_mem_nil rfl rfl rfl rfl rfl rfl ?_ | refine W_condT rfl ?_ | refine W_condF rfl ?_ | refine W_region ?_ | refine wN rfl ?_))
  refine wlptr 0 [] cx rfl (by repeat' (first | exact PtA.nil | refine PtA.ptr ?_ | refine PtA.v ?_)) rfl rfl List.not_mem_nil (fun r cs ⟨hr, hc⟩ => by subst hr; subst hc; exact ⟨rfl, rfl⟩) rfl rfl (fun r cs hR => ?_)
  obtain ⟨rfl, rfl⟩ := hR
  (repeat (first | refine WL_nil ?_ | (apply wl0 (hd := rfl); (first | exact qv9 | exact QV_div rfl rfl hne hr); (exact gy0)) | (apply wlb (hd := rfl); exact qbx; (exact gy0); rfl) | refine wln ⟨_, rfl, rfl⟩ rfl ?_ | refine wlnu ⟨_, rfl, rfl⟩ rfl ?_ | refine wst rfl rfl rfl List.not_mem_nil rfl rfl rfl rfl rfl rfl ?_ | refine W_condT rfl ?_ | refine W_condF rfl ?_ | refine W_region ?_ | refine wN rfl ?_))
  refine ptrEnd (Weak.refl _) (resA_tmp rfl rfl) rfl rfl rfl ?_
  exact ⟨rfl, rfl⟩
end Go.Proofs.YtkaffcdjhbaifaaGreat

namespace Go.Proofs.YtkaffcdjhbaifaaGreat
open Go.Eng
set_option maxRecDepth 100000
attribute [local irreducible] QV TV WL HW W CallOk Weak

theorem within_ok (x a b : Int) : CallOk Tryz.prog 25 [vi x, vi a, vi b] (fun r => r = vb (inR x a b)) := by
  refine callOk Tryz.func25 Tryz.ntmps25 Tryz.results25 rfl rfl rfl fun B w0 I0 => ?_
  (repeat (first | refine WL_nil ?_ | (apply wl0 (hd := rfl); (first | exact qv9); (exact gy0)) | (apply wlb (hd := rfl); exact qbx; (exact gy0); rfl) | refine wln ⟨_, rfl, rfl⟩ rfl ?_ | refine wlnu ⟨_, rfl, rfl⟩ rfl ?_ | refine wst rfl rfl rfl List.not_mem_nil rfl rfl rfl rfl rfl rfl ?_ | refine W_condT rfl ?_ | refine W_condF rfl ?_ | refine W_region ?_ | refine wN rfl ?_))
  (refine wls rfl rfl (fun hg => ?_) (fun hg => ?_))
  all_goals (repeat (first | refine WL_nil ?_ | (apply wl0 (hd := rfl); (first | exact qv9); (exact gy0)) | (apply wlb (hd := rfl); exact qbx; (exact gy0); rfl) | refine wln ⟨_, rfl, rfl⟩ rfl ?_ | refine wlnu ⟨_, rfl, rfl⟩ rfl ?_ | refine wst rfl rfl rfl List.not_mem_nil rfl rfl rfl rfl rfl rfl ?_ | refine W_condT rfl ?_ | refine W_condF rfl ?_ | refine W_region ?_ | refine wN rfl ?_))
  all_goals (refine Exists.intro _ ⟨Weak.refl _, Exists.intro _ ⟨resA_tmp rfl rfl, ?_, rfl⟩⟩; exact vb_eq (by simp [inR, hg]))
theorem l01In_ok (x a b : Int) : CallOk Tryz.prog 21 [vi x, vi a, vi b] (fun r => r = vb (inR x a b)) := by
  refine callOk Tryz.func21 Tryz.ntmps21 Tryz.results21 rfl rfl rfl fun B w0 I0 => ?_
  (repeat (first | refine WL_nil ?_ | (apply wl0 (hd := rfl); (first | exact qv9); (exact gy0)) | (apply wlb (hd := rfl); exact qbx; (exact gy0); rfl) | refine wln ⟨_, rfl, rfl⟩ rfl ?_ | refine wlnu ⟨_, rfl, rfl⟩ rfl ?_ | refine wst rfl rfl rfl List.not_mem_nil rfl rfl rfl rfl rfl rfl ?_ | refine W_condT rfl ?_ | refine W_condF rfl ?_ | refine W_region ?_ | refine wN rfl ?_))
  (refine wls rfl rfl (fun hg => ?_) (fun hg => ?_))
  all_goals (repeat (first | refine WL_nil ?_ | (apply wl0 (hd := rfl); (first | exact qv9); (exact gy0)) | (apply wlb (hd := rfl); exact qbx; (exact gy0); rfl) | refine wln ⟨_, rfl, rfl⟩ rfl ?_ | refine wlnu ⟨_, rfl, rfl⟩ rfl ?_ | refine wst rfl rfl rfl List.not_mem_nil rfl rfl rfl rfl rfl rfl ?_ | refine W_condT rfl ?_ | refine W_condF rfl ?_ | refine W_region ?_ | refine wN rfl ?_))
  all_goals (refine Exists.intro _ ⟨Weak.refl _, Exists.intro _ ⟨resA_tmp rfl rfl, ?_, rfl⟩⟩; exact vb_eq (by simp [inR, hg]))
theorem isPlace_ok (x : Int) : CallOk Tryz.prog 47 [vi x] (fun r => r = vb (inR x (-60) 60)) := by
  refine callOk Tryz.func47 Tryz.ntmps47 Tryz.results47 rfl rfl rfl fun B w0 I0 => ?_
  (repeat (first | refine WL_nil ?_ | (apply wl0 (hd := rfl); (first | exact qv9 | exact q_callA (within_ok _ _ _)); (exact gy0)) | (apply wlb (hd := rfl); exact qbx; (exact gy0); rfl) | refine wln ⟨_, rfl, rfl⟩ rfl ?_ | refine wlnu ⟨_, rfl, rfl⟩ rfl ?_ | refine wst rfl rfl rfl List.not_mem_nil rfl rfl rfl rfl rfl rfl ?_ | refine W_condT rfl ?_ | refine W_condF rfl ?_ | refine W_region ?_ | refine wN rfl ?_))
  refine Exists.intro _ ⟨Weak.refl _, Exists.intro _ ⟨resA_tmp rfl rfl, ?_, rfl⟩⟩
  rfl
theorem Point_ok (p : Pt) : CallOk Tryz.prog 86 [p.av] (fun r => r = vb (ptOk p)) := by
  refine callOk Tryz.func86 Tryz.ntmps86 Tryz.results86 rfl rfl rfl fun B w0 I0 => ?_
  (repeat (first | refine WL_nil ?_ | (apply wl0 (hd := rfl); (first | exact qv9 | exact q_callA (isPlace_ok _)); (exact gy0)) | (apply wlb (hd := rfl); exact qbx; (exact gy0); rfl) | refine wln ⟨_, rfl, rfl⟩ rfl ?_ | refine wlnu ⟨_, rfl, rfl⟩ rfl ?_ | refine wst rfl rfl rfl List.not_mem_nil rfl rfl rfl rfl rfl rfl ?_ | refine W_condT rfl ?_ | refine W_condF rfl ?_ | refine W_region ?_ | refine wN rfl ?_))
  (refine wls rfl rfl (fun hg => ?_) (fun hg => ?_))
  all_goals (repeat (first | refine WL_nil ?_ | (apply wl0 (hd := rfl); (first | exact qv9 | exact q_callA (isPlace_ok _)); (exact gy0)) | (apply wlb (hd := rfl); exact qbx; (exact gy0); rfl) | refine wln ⟨_, rfl, rfl⟩ rfl ?_ | refine wlnu ⟨_, rfl, rfl⟩ rfl ?_ | refine wst rfl rfl rfl List.not_mem_nil rfl rfl rfl rfl rfl rfl ?_ | refine W_condT rfl ?_ | refine W_condF rfl ?_ | refine W_region ?_ | refine wN rfl ?_))
  all_goals (refine Exists.intro _ ⟨Weak.refl _, Exists.intro _ ⟨resA_tmp rfl rfl, ?_, rfl⟩⟩; exact vb_eq (by simp [ptOk, hg]))
theorem PointOk_ok (p : Pt) : CallOk Tryz.prog 77 [p.av] (fun r => r = vb (ptOk p)) := by
  refine callOk Tryz.func77 Tryz.ntmps77 Tryz.results77 rfl rfl rfl fun B w0 I0 => ?_
  (repeat (first | refine WL_nil ?_ | (apply wl0 (hd := rfl); (first | exact qv9 | exact q_callA (l01In_ok _ _ _)); (exact gy0)) | (apply wlb (hd := rfl); exact qbx; (exact gy0); rfl) | refine wln ⟨_, rfl, rfl⟩ rfl ?_ | refine wlnu ⟨_, rfl, rfl⟩ rfl ?_ | refine wst rfl rfl rfl List.not_mem_nil rfl rfl rfl rfl rfl rfl ?_ | refine W_condT rfl ?_ | refine W_condF rfl ?_ | refine W_region ?_ | refine wN rfl ?_))
  (refine wls rfl rfl (fun hg => ?_) (fun hg => ?_))
  all_goals (repeat (first | refine WL_nil ?_ | (apply wl0 (hd := rfl); (first | exact qv9 | exact q_callA (l01In_ok _ _ _)); (exact gy0)) | (apply wlb (hd := rfl); exact qbx; (exact gy0); rfl) | refine wln ⟨_, rfl, rfl⟩ rfl ?_ | refine wlnu ⟨_, rfl, rfl⟩ rfl ?_ | refine wst rfl rfl rfl List.not_mem_nil rfl rfl rfl rfl rfl rfl ?_ | refine W_condT rfl ?_ | refine W_condF rfl ?_ | refine W_region ?_ | refine wN rfl ?_))
  all_goals (refine Exists.intro _ ⟨Weak.refl _, Exists.intro _ ⟨resA_tmp rfl rfl, ?_, rfl⟩⟩; exact vb_eq (by simp [ptOk, hg]))
theorem side_ok (a b p : Pt) : CallOk Tryz.prog 87 [p.av, a.av, b.av] (fun r => r = vi (sideW a b p)) := by
  refine callOk Tryz.func87 Tryz.ntmps87 Tryz.results87 rfl rfl rfl fun B w0 I0 => ?_
  (repeat (first | refine WL_nil ?_ | (apply wl0 (hd := rfl); (first | exact qv9); (exact gy0)) | (apply wlb (hd := rfl); exact qbx; (exact gy0); rfl) | refine wln ⟨_, rfl, rfl⟩ rfl ?_ | refine wlnu ⟨_, rfl, rfl⟩ rfl ?_ | refine wst rfl rfl rfl List.not_mem_nil rfl rfl rfl rfl rfl rfl ?_ | refine W_condT rfl ?_ | refine W_condF rfl ?_ | refine W_region ?_ | refine wN rfl ?_))
  refine Exists.intro _ ⟨Weak.refl _, Exists.intro _ ⟨resA_tmp rfl rfl, ?_, rfl⟩⟩
  rfl
theorem l02Side_ok (a b p : Pt) : CallOk Tryz.prog 78 [a.av, b.av, p.av] (fun r => r = vi (sideW a b p)) := by
  refine callOk Tryz.func78 Tryz.ntmps78 Tryz.results78 rfl rfl rfl fun B w0 I0 => ?_
  (repeat (first | refine WL_nil ?_ | (apply wl0 (hd := rfl); (first | exact qv9); (exact gy0)) | (apply wlb (hd := rfl); exact qbx; (exact gy0); rfl) | refine wln ⟨_, rfl, rfl⟩ rfl ?_ | refine wlnu ⟨_, rfl, rfl⟩ rfl ?_ | refine wst rfl rfl rfl List.not_mem_nil rfl rfl rfl rfl rfl rfl ?_ | refine W_condT rfl ?_ | refine W_condF rfl ?_ | refine W_region ?_ | refine wN rfl ?_))
  refine Exists.intro _ ⟨Weak.refl _, Exists.intro _ ⟨resA_tmp rfl rfl, ?_, rfl⟩⟩
  rfl
end Go.Proofs.YtkaffcdjhbaifaaGreat
