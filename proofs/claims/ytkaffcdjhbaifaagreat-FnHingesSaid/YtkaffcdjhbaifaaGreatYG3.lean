/- Arrays: what the seat's types are. -/
import Derived.Test.YtkaffcdjhbaifaaGreatZ8
import Derived.Test.YtkaffcdjhbaifaaGreatYI
import Derived.Shelf.Strings.OnBuilder
import Derived.Test.YtkaffcdjhbaifaaGreatProg
import Derived.Test.YtkaffcdjhbaifaaGreatYG2
import Derived.Test.YtkaffcdjhbaifaaGreatYG1
import Derived.Test.YtkaffcdjhbaifaaGreatZ9
import Derived.Test.YtkaffcdjhbaifaaGreatYALd
import Derived.Test.YtkaffcdjhbaifaaGreatZ10
namespace Go.Proofs.YtkaffcdjhbaifaaGreat
open Go.Eng
instance ty9 : TyOk Tryz.prog 9 false 1 := ⟨fun _ => by kernel_rfl, fun _ => by kernel_rfl⟩
instance ze9 : ZeroOk Tryz.prog 9 (.string ⟨#[]⟩) := ⟨fun _ => by kernel_rfl⟩
instance ty69 : TyOk Tryz.prog 69 false 1 := ⟨fun _ => by kernel_rfl, fun _ => by kernel_rfl⟩
instance ze69 : ZeroOk Tryz.prog 69 (.slice none 0 0) := ⟨fun _ => by kernel_rfl⟩
instance ty104 : TyOk Tryz.prog 104 true 20 := ⟨fun _ => by kernel_rfl, fun _ => by kernel_rfl⟩
instance ze104 : ZeroOk Tryz.prog 104 (.agg #[.int .u8 0, .int .u8 0, .int .u8 0, .int .u8 0, .int .u8 0, .int .u8 0, .int .u8 0, .int .u8 0, .int .u8 0, .int .u8 0, .int .u8 0, .int .u8 0, .int .u8 0, .int .u8 0, .int .u8 0, .int .u8 0, .int .u8 0, .int .u8 0, .int .u8 0, .int .u8 0]) := ⟨fun _ => by kernel_rfl⟩
instance ty141 : TyOk Tryz.prog 141 true 3 := ⟨fun _ => by kernel_rfl, fun _ => by kernel_rfl⟩
instance ze141 : ZeroOk Tryz.prog 141 (.agg #[.int .i64 0, .int .i64 0, .int .i64 0]) := ⟨fun _ => by kernel_rfl⟩
instance zc9 : ZcOk Tryz.prog 9 [.v (.string ⟨#[]⟩)] := ⟨_, ze9, rfl⟩
instance zc69 : ZcOk Tryz.prog 69 [.v (.slice none 0 0)] := ⟨_, ze69, rfl⟩
instance zc104 : ZcOk Tryz.prog 104 [.v (.int .u8 0), .v (.int .u8 0), .v (.int .u8 0), .v (.int .u8 0), .v (.int .u8 0), .v (.int .u8 0), .v (.int .u8 0), .v (.int .u8 0), .v (.int .u8 0), .v (.int .u8 0), .v (.int .u8 0), .v (.int .u8 0), .v (.int .u8 0), .v (.int .u8 0), .v (.int .u8 0), .v (.int .u8 0), .v (.int .u8 0), .v (.int .u8 0), .v (.int .u8 0), .v (.int .u8 0)] := ⟨_, ze104, rfl⟩
instance zc141 : ZcOk Tryz.prog 141 [.v (.int .i64 0), .v (.int .i64 0), .v (.int .i64 0)] := ⟨_, ze141, rfl⟩
theorem in69 : (Tryz.prog.info? 9).map (fun i => (i.zero, i.size, i.bytes)) = some (some (.string ⟨#[]⟩), 1, 16) := by kernel_rfl
instance sl69 : SlOk Tryz.prog 69 9 1 16 := ⟨Tryz.underlying69, slInfo in69 rfl, by decide⟩
instance zs69 : ZSlOk Tryz.prog 69 9 1 16 [.string ⟨#[]⟩] := ⟨sl69, _, ze9.zero, rfl⟩
instance ar104 : ArOk Tryz.prog 104 5 20 1 := ⟨Tryz.underlying104, by kernel_rfl⟩
instance ar141 : ArOk Tryz.prog 141 3 3 1 := ⟨Tryz.underlying141, by kernel_rfl⟩
instance fn33 : FnOk Tryz.prog 33 := ⟨Tryz.f33, Tryz.func33, by kernel_rfl, by kernel_rfl⟩
end Go.Proofs.YtkaffcdjhbaifaaGreat

namespace Go.Proofs
open Go.Shelf
open Go.RowKit
def Tryz.lays156_ren : Go.Shelf.Ren := ⟨fun | 156 => 33 | 165 => 51 | 166 => 52 | 169 => 53 | 240 => 71 | 241 => 72 | 276 => 89 | 277 => 90 | n => n, fun | 31 => 69 | 9 => 9 | 3 => 3 | 4 => 4 | 0 => 0 | 20 => 20 | 72 => 108 | 76 => 112 | 70 => 106 | 37 => 22 | 75 => 111 | 127 => 133 | 164 => 145 | 5 => 5 | 80 => 114 | n => n, fun | n => n⟩
theorem Tryz.lays156 : Go.Proofs.Lays.n156 Tryz.prog Tryz.lays156_ren := {
  mixed := by kernel_rfl
  f156 := Tryz.func33.trans (congrArg some (by kernel_rfl))
  f165 := Tryz.func51.trans (congrArg some (by kernel_rfl))
  f166 := Tryz.func52.trans (congrArg some (by kernel_rfl))
  f169 := Tryz.func53.trans (congrArg some (by kernel_rfl))
  f240 := Tryz.func71.trans (congrArg some (by kernel_rfl))
  f241 := Tryz.func72.trans (congrArg some (by kernel_rfl))
  f276 := Tryz.func89.trans (congrArg some (by kernel_rfl))
  f277 := Tryz.func90.trans (congrArg some (by kernel_rfl))
  t0 := Tryz.underlying0
  a0 := Tryz.isAgg0
  z0 := Tryz.sizeOf0
  v0 := Tryz.zeroValue0
  t3 := Tryz.underlying3
  a3 := Tryz.isAgg3
  z3 := Tryz.sizeOf3
  v3 := Tryz.zeroValue3
  t4 := Tryz.underlying4
  a4 := Tryz.isAgg4
  z4 := Tryz.sizeOf4
  v4 := Tryz.zeroValue4
  t9 := Tryz.underlying9
  a9 := Tryz.isAgg9
  z9 := Tryz.sizeOf9
  v9 := Tryz.zeroValue9
  t20 := Tryz.underlying20
  a20 := Tryz.isAgg20
  z20 := Tryz.sizeOf20
  v20 := Tryz.zeroValue20
  t31 := Tryz.underlying69
  a31 := Tryz.isAgg69
  z31 := Tryz.sizeOf69
  v31 := Tryz.zeroValue69
  t37 := Tryz.underlying22
  a37 := Tryz.isAgg22
  z37 := Tryz.sizeOf22
  v37 := Tryz.zeroValue22
  t70 := Tryz.underlying106
  a70 := Tryz.isAgg106
  z70 := Tryz.sizeOf106
  v70 := Tryz.zeroValue106
  t72 := Tryz.underlying108
  a72 := Tryz.isAgg108
  z72 := Tryz.sizeOf108
  v72 := Tryz.zeroValue108
  t75 := Tryz.underlying111
  a75 := Tryz.isAgg111
  z75 := Tryz.sizeOf111
  v75 := Tryz.zeroValue111
  t76 := Tryz.underlying112
  a76 := Tryz.isAgg112
  z76 := Tryz.sizeOf112
  v76 := Tryz.zeroValue112
  t127 := Tryz.underlying133
  a127 := Tryz.isAgg133
  z127 := Tryz.sizeOf133
  v127 := Tryz.zeroValue133
  t164 := Tryz.underlying145
  a164 := Tryz.isAgg145
  z164 := Tryz.sizeOf145
  v164 := Tryz.zeroValue145 }
theorem Tryz.Builder_Extra_156 : Builder.Extra Tryz.prog Tryz.lays156_ren := {
  sizeBuilder := by kernel_rfl
  liesBuilder := by kernel_rfl
  t5 := Tryz.underlying5
  a5 := Tryz.isAgg5
  z5 := Tryz.sizeOf5
  v5 := Tryz.zeroValue5
  infoByte := by kernel_rfl
  cellsByte := by kernel_rfl
  sizeByte := by kernel_rfl
  neB5 := by decide }
theorem Tryz.strings_Join_none (a : Option Addr) (c : Nat) (sep : ByteArray) (w : World) :
    Calls Tryz.prog 33 #[.slice a 0 c, .string sep] w fun e w' => e = .returned (.string ⟨#[]⟩) ∧ w' = w := Any.strings_Join_none Tryz.lays156 Tryz.Builder_Extra_156 a c sep w
theorem Tryz.strings_Join (bk o c : Nat) (xs : List ByteArray) (sep : ByteArray) (w : World) (hcells : ∀ (j : Nat) x, xs[j]? = some x → w.cell? ⟨bk, o + j, none⟩ = some (.string x)) (hbk : bk < w.heap.size) (hN : xs.length ≤ 140737488355328) (hcap : xs.length ≤ c) (hlen : (Lib.join (xs.map (·.data.toList)) sep.data.toList).length ≤ 140737488355328) :
    Calls Tryz.prog 33 #[.slice (some ⟨bk, o, none⟩) xs.length c, .string sep] w fun e w' => e = .returned (.string ⟨(Lib.join (xs.map (·.data.toList)) sep.data.toList).toArray⟩) ∧ Below w.heap.size w w' := Any.strings_Join Tryz.lays156 Tryz.Builder_Extra_156 bk o c xs sep w hcells hbk hN hcap hlen
end Go.Proofs

namespace Go.Proofs.YtkaffcdjhbaifaaGreat
open Go.Eng
set_option maxRecDepth 100000
attribute [local irreducible] QV TV WL HW W CallOk Weak

abbrev z8 : AV := .v (.int .u8 0)
abbrev v8 (n : Int) : AV := .v (.int .u8 n)
abbrev vq (n : Int) : AV := .v (.int .u64 n)
def dg (v : Nat) : List Int := if v = 0 then [] else if v < 10 then [48 + (v : Int)] else [48 + ((v / 10 : Nat) : Int), 48 + ((v % 10 : Nat) : Int)]
def fmtL (n : Int) : List Int := if n = 0 then [48] else if n < 0 then 45 :: dg n.natAbs else dg n.natAbs
theorem dg_len (v : Nat) : (dg v).length ≤ 2 := by
  unfold dg
  split
  · simp
  · split <;> simp
theorem fmtL_len (n : Int) : (fmtL n).length ≤ 3 := by
  have := dg_len n.natAbs
  unfold fmtL
  split
  · simp
  · split
    · simp; omega
    · omega
theorem implFormatInt_ok (n : Int) (h : -99 ≤ n ∧ n ≤ 99) : CallOk Tryz.prog 32 [vi n] (fun r => r = vs (fmtL n)) := by
  obtain ⟨v, hv⟩ : ∃ v : Nat, v = n.natAbs := ⟨_, rfl⟩
  have hv9 : v ≤ 99 := by omega
  have r1 : ∀ u : Nat, u ≤ 99 → adv .rem .u64 (u : Int) 10 = some (.int .u64 ((u % 10 : Nat) : Int)) := fun u hu => by
    simp only [adv, IntWalk.rem_in (u : Int) 10 (by omega)]; rfl
  have r2 : ∀ u : Nat, u ≤ 99 → adv .quo .u64 (u : Int) 10 = some (.int .u64 ((u / 10 : Nat) : Int)) := fun u hu => by
    have e : (u : Int).tdiv 10 = ((u / 10 : Nat) : Int) := rfl
    simp only [adv, e, IntWalk.u64_in ((u / 10 : Nat) : Int) (by omega)]
  have r3 : ∀ b : Nat, b ≤ 9 → abin .add .u64 48 (b : Int) = some (.int .u64 (48 + (b : Int))) := fun b hb => by
    simp only [abin, IntWalk.u64_in (48 + (b : Int)) (by omega)]
  have r4 : ∀ b : Nat, b ≤ 9 → IntKind.u8.wrap (48 + (b : Int)) = 48 + (b : Int) := fun b hb => IntWalk.u8_in _ (by omega)
  have e0 : ∀ u : Nat, u = 0 → abin .eql .u64 (u : Int) 0 = some (.bool true) := fun u hu => by simp [abin, hu]
  have e1 : ∀ u : Nat, u ≠ 0 → abin .eql .u64 (u : Int) 0 = some (.bool false) := fun u hu => by simp [abin]; omega
  by_cases h0 : n < 0
  · have cv : IntKind.u64.wrap n = 18446744073709551616 - (v : Int) := by rw [IntKind.wrap_u64]; omega
    have cn : IntKind.u64.wrap (0 - (18446744073709551616 - (v : Int))) = (v : Int) := by rw [IntKind.wrap_u64]; omega
    have c0 : abin .lss .i64 n 0 = some (.bool true) := by simp [abin, h0]
    refine callOk Tryz.func32 Tryz.ntmps32 Tryz.results32 rfl rfl rfl fun B w0 I0 => ?_
    (repeat (first | refine WL_nil ?_ | (apply wl0 (hd := rfl); (first | exact QV_bin rfl rfl c0 | exact q_negE rfl cn | exact qv9 | exact q_convE Tryz.underlying3 Tryz.underlying105 rfl cv); (exact gy0)) | (apply wlb (hd := rfl); exact qbx; (exact gy0); rfl) | refine wln ⟨_, rfl, rfl⟩ rfl ?_ | refine wlnu ⟨_, rfl, rfl⟩ rfl ?_ | refine wst rfl rfl rfl List.not_mem_nil rfl rfl rfl rfl rfl rfl ?_ | refine W_condT rfl ?_ | refine W_condF rfl ?_ | refine W_region ?_ | refine wN rfl ?_))
    by_cases h1 : v < 10
    · refine W_loop (fun m s => m = 0 ∧ s = ⟨[(0, vi n), (3, .ptr 3 0), (4, vi 20), (5, vq v)], [(3, [z8, z8, z8, z8, z8, z8, z8, z8, z8, z8, z8, z8, z8, z8, z8, z8, z8, z8, z8, z8])], []⟩) ⟨_, _, ⟨rfl, rfl⟩, wkA⟩ ?_
      rintro m s ⟨rfl, rfl⟩
      (repeat (first | refine WL_nil ?_ | (apply wl0 (hd := rfl); (first | exact QV_bin rfl rfl c0 | exact QV_bin rfl rfl (r3 (v % 10) (by omega)) | exact QV_bin rfl rfl (e0 (v / 10) (by omega)) | exact qv9 | exact QV_div rfl rfl (by decide) (r1 v hv9) | exact QV_div rfl rfl (by decide) (r2 v hv9) | exact q_convE Tryz.underlying105 Tryz.underlying5 rfl (r4 (v % 10) (by omega)) | exact q_indexAr 19 rfl rfl rfl rfl | exact q_indexAr 18 rfl rfl rfl rfl); (exact gy0)) | (apply wlb (hd := rfl); exact qbx; (exact gy0); rfl) | refine wln ⟨_, rfl, rfl⟩ rfl ?_ | refine wlnu ⟨_, rfl, rfl⟩ rfl ?_ | refine wst rfl rfl rfl List.not_mem_nil rfl rfl rfl rfl rfl rfl ?_ | refine wslstr 18 [45, 48 + ((v % 10 : Nat) : Int)] Tryz.underlying22 Tryz.underlying5 Tryz.underlying9 rfl rfl rfl rfl rfl rfl rfl rfl rfl ?_ | refine W_condT rfl ?_ | refine W_condF rfl ?_ | refine W_region ?_ | refine wN rfl ?_))
      refine Exists.intro _ ⟨Weak.refl _, Exists.intro _ ⟨resA_tmp rfl rfl, ?_, rfl⟩⟩
      rw [fmtL, if_neg (by omega), if_pos h0, ← hv, dg, if_neg (by omega), if_pos h1, Nat.mod_eq_of_lt h1]
      rfl
    · refine W_loop (fun m s => (m = 1 ∧ s = ⟨[(0, vi n), (3, .ptr 3 0), (4, vi 20), (5, vq v)], [(3, [z8, z8, z8, z8, z8, z8, z8, z8, z8, z8, z8, z8, z8, z8, z8, z8, z8, z8, z8, z8])], []⟩) ∨ (m = 0 ∧ s = ⟨[(0, vi n), (3, .ptr 3 0), (4, vi (20 - 1)), (5, vq ((v / 10 : Nat) : Int))], [(3, [z8, z8, z8, z8, z8, z8, z8, z8, z8, z8, z8, z8, z8, z8, z8, z8, z8, z8, z8, v8 (48 + ((v % 10 : Nat) : Int))])], []⟩)) ⟨_, _, .inl ⟨rfl, rfl⟩, wkA⟩ ?_
      rintro m s (⟨rfl, rfl⟩ | ⟨rfl, rfl⟩)
      · (repeat (first | refine WL_nil ?_ | (apply wl0 (hd := rfl); (first | exact QV_bin rfl rfl (r3 (v % 10) (by omega)) | exact QV_bin rfl rfl (e1 (v / 10) (by omega)) | exact qv9 | exact QV_div rfl rfl (by decide) (r1 v hv9) | exact QV_div rfl rfl (by decide) (r2 v hv9) | exact q_convE Tryz.underlying105 Tryz.underlying5 rfl (r4 (v % 10) (by omega)) | exact q_indexAr 19 rfl rfl rfl rfl); (exact gy0)) | (apply wlb (hd := rfl); exact qbx; (exact gy0); rfl) | refine wln ⟨_, rfl, rfl⟩ rfl ?_ | refine wlnu ⟨_, rfl, rfl⟩ rfl ?_ | refine wst rfl rfl rfl List.not_mem_nil rfl rfl rfl rfl rfl rfl ?_ | refine W_condT rfl ?_ | refine W_condF rfl ?_ | refine W_region ?_ | refine wN rfl ?_))
        refine Exists.intro _ (Exists.intro _ ⟨Nat.zero_lt_one, .inr ⟨rfl, rfl⟩, wkA⟩)
      · (repeat (first | refine WL_nil ?_ | (apply wl0 (hd := rfl); (first | exact QV_bin rfl rfl c0 | exact QV_bin rfl rfl (r3 (v / 10 % 10) (by omega)) | exact QV_bin rfl rfl (e0 (v / 10 / 10) (by omega)) | exact qv9 | exact QV_div rfl rfl (by decide) (r1 (v / 10) (by omega)) | exact QV_div rfl rfl (by decide) (r2 (v / 10) (by omega)) | exact q_convE Tryz.underlying105 Tryz.underlying5 rfl (r4 (v / 10 % 10) (by omega)) | exact q_indexAr 18 rfl rfl rfl rfl | exact q_indexAr 17 rfl rfl rfl rfl); (exact gy0)) | (apply wlb (hd := rfl); exact qbx; (exact gy0); rfl) | refine wln ⟨_, rfl, rfl⟩ rfl ?_ | refine wlnu ⟨_, rfl, rfl⟩ rfl ?_ | refine wst rfl rfl rfl List.not_mem_nil rfl rfl rfl rfl rfl rfl ?_ | refine wslstr 17 [45, 48 + ((v / 10 % 10 : Nat) : Int), 48 + ((v % 10 : Nat) : Int)] Tryz.underlying22 Tryz.underlying5 Tryz.underlying9 rfl rfl rfl rfl rfl rfl rfl rfl rfl ?_ | refine W_condT rfl ?_ | refine W_condF rfl ?_ | refine W_region ?_ | refine wN rfl ?_))
        refine Exists.intro _ ⟨Weak.refl _, Exists.intro _ ⟨resA_tmp rfl rfl, ?_, rfl⟩⟩
        rw [fmtL, if_neg (by omega), if_pos h0, ← hv, dg, if_neg (by omega), if_neg h1, Nat.mod_eq_of_lt (show v / 10 < 10 by omega)]
        rfl
  · have cv : IntKind.u64.wrap n = (v : Int) := by rw [IntKind.wrap_u64]; omega
    have c0 : abin .lss .i64 n 0 = some (.bool false) := by simp [abin]; omega
    refine callOk Tryz.func32 Tryz.ntmps32 Tryz.results32 rfl rfl rfl fun B w0 I0 => ?_
    (repeat (first | refine WL_nil ?_ | (apply wl0 (hd := rfl); (first | exact QV_bin rfl rfl c0 | exact qv9 | exact q_convE Tryz.underlying3 Tryz.underlying105 rfl cv); (exact gy0)) | (apply wlb (hd := rfl); exact qbx; (exact gy0); rfl) | refine wln ⟨_, rfl, rfl⟩ rfl ?_ | refine wlnu ⟨_, rfl, rfl⟩ rfl ?_ | refine wst rfl rfl rfl List.not_mem_nil rfl rfl rfl rfl rfl rfl ?_ | refine W_condT rfl ?_ | refine W_condF rfl ?_ | refine W_region ?_ | refine wN rfl ?_))
    by_cases h1 : v < 10
    · refine W_loop (fun m s => m = 0 ∧ s = ⟨[(0, vi n), (3, .ptr 3 0), (4, vi 20), (5, vq v)], [(3, [z8, z8, z8, z8, z8, z8, z8, z8, z8, z8, z8, z8, z8, z8, z8, z8, z8, z8, z8, z8])], []⟩) ⟨_, _, ⟨rfl, rfl⟩, wkA⟩ ?_
      rintro m s ⟨rfl, rfl⟩
      (repeat (first | refine WL_nil ?_ | (apply wl0 (hd := rfl); (first | exact QV_bin rfl rfl c0 | exact QV_bin rfl rfl (r3 (v % 10) (by omega)) | exact QV_bin rfl rfl (e0 (v / 10) (by omega)) | exact qv9 | exact QV_div rfl rfl (by decide) (r1 v hv9) | exact QV_div rfl rfl (by decide) (r2 v hv9) | exact q_convE Tryz.underlying105 Tryz.underlying5 rfl (r4 (v % 10) (by omega)) | exact q_indexAr 19 rfl rfl rfl rfl); (exact gy0)) | (apply wlb (hd := rfl); exact qbx; (exact gy0); rfl) | refine wln ⟨_, rfl, rfl⟩ rfl ?_ | refine wlnu ⟨_, rfl, rfl⟩ rfl ?_ | refine wst rfl rfl rfl List.not_mem_nil rfl rfl rfl rfl rfl rfl ?_ | refine wslstr 19 [48 + ((v % 10 : Nat) : Int)] Tryz.underlying22 Tryz.underlying5 Tryz.underlying9 rfl rfl rfl rfl rfl rfl rfl rfl rfl ?_ | refine W_condT rfl ?_ | refine W_condF rfl ?_ | refine W_region ?_ | refine wN rfl ?_))
      refine Exists.intro _ ⟨Weak.refl _, Exists.intro _ ⟨resA_tmp rfl rfl, ?_, rfl⟩⟩
      by_cases hz : n = 0
      · subst hz
        have : v = 0 := by simpa using hv
        subst this
        rfl
      · rw [fmtL, if_neg hz, if_neg h0, ← hv, dg, if_neg (by omega), if_pos h1, Nat.mod_eq_of_lt h1]
        rfl
    · refine W_loop (fun m s => (m = 1 ∧ s = ⟨[(0, vi n), (3, .ptr 3 0), (4, vi 20), (5, vq v)], [(3, [z8, z8, z8, z8, z8, z8, z8, z8, z8, z8, z8, z8, z8, z8, z8, z8, z8, z8, z8, z8])], []⟩) ∨ (m = 0 ∧ s = ⟨[(0, vi n), (3, .ptr 3 0), (4, vi (20 - 1)), (5, vq ((v / 10 : Nat) : Int))], [(3, [z8, z8, z8, z8, z8, z8, z8, z8, z8, z8, z8, z8, z8, z8, z8, z8, z8, z8, z8, v8 (48 + ((v % 10 : Nat) : Int))])], []⟩)) ⟨_, _, .inl ⟨rfl, rfl⟩, wkA⟩ ?_
      rintro m s (⟨rfl, rfl⟩ | ⟨rfl, rfl⟩)
      · (repeat (first | refine WL_nil ?_ | (apply wl0 (hd := rfl); (first | exact QV_bin rfl rfl (r3 (v % 10) (by omega)) | exact QV_bin rfl rfl (e1 (v / 10) (by omega)) | exact qv9 | exact QV_div rfl rfl (by decide) (r1 v hv9) | exact QV_div rfl rfl (by decide) (r2 v hv9) | exact q_convE Tryz.underlying105 Tryz.underlying5 rfl (r4 (v % 10) (by omega)) | exact q_indexAr 19 rfl rfl rfl rfl); (exact gy0)) | (apply wlb (hd := rfl); exact qbx; (exact gy0); rfl) | refine wln ⟨_, rfl, rfl⟩ rfl ?_ | refine wlnu ⟨_, rfl, rfl⟩ rfl ?_ | refine wst rfl rfl rfl List.not_mem_nil rfl rfl rfl rfl rfl rfl ?_ | refine W_condT rfl ?_ | refine W_condF rfl ?_ | refine W_region ?_ | refine wN rfl ?_))
        refine Exists.intro _ (Exists.intro _ ⟨Nat.zero_lt_one, .inr ⟨rfl, rfl⟩, wkA⟩)
      · (repeat (first | refine WL_nil ?_ | (apply wl0 (hd := rfl); (first | exact QV_bin rfl rfl c0 | exact QV_bin rfl rfl (r3 (v / 10 % 10) (by omega)) | exact QV_bin rfl rfl (e0 (v / 10 / 10) (by omega)) | exact qv9 | exact QV_div rfl rfl (by decide) (r1 (v / 10) (by omega)) | exact QV_div rfl rfl (by decide) (r2 (v / 10) (by omega)) | exact q_convE Tryz.underlying105 Tryz.underlying5 rfl (r4 (v / 10 % 10) (by omega)) | exact q_indexAr 18 rfl rfl rfl rfl); (exact gy0)) | (apply wlb (hd := rfl); exact qbx; (exact gy0); rfl) | refine wln ⟨_, rfl, rfl⟩ rfl ?_ | refine wlnu ⟨_, rfl, rfl⟩ rfl ?_ | refine wst rfl rfl rfl List.not_mem_nil rfl rfl rfl rfl rfl rfl ?_ | refine wslstr 18 [48 + ((v / 10 % 10 : Nat) : Int), 48 + ((v % 10 : Nat) : Int)] Tryz.underlying22 Tryz.underlying5 Tryz.underlying9 rfl rfl rfl rfl rfl rfl rfl rfl rfl ?_ | refine W_condT rfl ?_ | refine W_condF rfl ?_ | refine W_region ?_ | refine wN rfl ?_))
        refine Exists.intro _ ⟨Weak.refl _, Exists.intro _ ⟨resA_tmp rfl rfl, ?_, rfl⟩⟩
        rw [fmtL, if_neg (by omega), if_neg h0, ← hv, dg, if_neg (by omega), if_neg h1, Nat.mod_eq_of_lt (show v / 10 < 10 by omega)]
        rfl
def joinL : List (List Int) → List Int
  | [] => []
  | x :: r => x ++ (r.map fun y => (32 : Int) :: y).flatten
theorem joinL_len {xs : List (List Int)} (h : ∀ x ∈ xs, x.length ≤ 100) : (joinL xs).length ≤ 101 * xs.length := by
  have aux : ∀ r : List (List Int), (∀ x ∈ r, x.length ≤ 100) → (r.map fun y => (32 : Int) :: y).flatten.length ≤ 101 * r.length := by
    intro r
    induction r with
    | nil => intro _; simp
    | cons y r ih =>
      intro hr
      have h1 := hr y (by simp)
      have h2 := ih fun x hx => hr x (by simp [hx])
      simp only [List.map_cons, List.flatten_cons, List.length_append, List.length_cons]
      omega
  cases xs with
  | nil => simp [joinL]
  | cons x r =>
    have h1 := h x (by simp)
    have h2 := aux r fun y hy => h y (by simp [hy])
    simp only [joinL, List.length_append, List.length_cons]
    omega
def toU (l : List Int) : List UInt8 := l.map fun n => UInt8.ofNat n.toNat
theorem joinL_bytes (xs : List (List Int)) : Lib.join (xs.map toU) [32] = toU (joinL xs) := by
  cases xs with
  | nil => rfl
  | cons x r =>
    rw [List.map_cons, Lib.join_cons, joinL]
    simp only [toU, List.map_append, Lib.joinTail]
    congr 1
    induction r with
    | nil => rfl
    | cons y r ih =>
      simp only [List.map_cons, List.flatten_cons, List.map_append, ih]
      rfl
theorem join_ok (xs : List (List Int)) (hn : xs.length ≤ 1000) (hl : ∀ x ∈ xs, x.length ≤ 100) : CallOk Tryz.prog 33 [.sl 1 (xs.map fun l => [vs l]), .v (.string ⟨#[32]⟩)] (fun r => r = vs (joinL xs)) := by
  unfold CallOk
  intro I w vals hI hargs
  simp only [dreps, drep] at hargs
  obtain ⟨y, zs, e1, ⟨A, c, rfl, hA, hc⟩, y2, zs2, e2, rfl, rfl⟩ := hargs
  obtain rfl : vals = #[.slice A (xs.map fun l => [vs l]).length c, .string ⟨#[32]⟩] := by
    apply Array.ext'
    simp [e1, e2]
  rw [List.length_map] at hc ⊢
  have ret : ∀ w', RowKit.Below w.heap.size w w' → ∃ g' : Gh, rep g' w' (vs (joinL xs)) (.string (strOfNums (joinL xs))) ∧ Ret I w g' w' := fun w' hb =>
    ⟨⟨I, fun _ => none, fun _ => none, fun _ => False, fun _ => 0⟩, by simp only [rep], ⟨⟨hb.os, hb.tape, hb.output, hb.size, fun k hk _ => hb.block k hk⟩, fun _ _ h => h, fun _ _ h => .inl h, fun b o h => by
      rw [World.cell?_of_block (a := ⟨b, o, none⟩) (hb.block b (cell_lt (hI b o h)))]; exact hI b o h, fun _ _ h => h.elim, fun _ _ _ h => h.elim⟩⟩
  by_cases h0 : xs = []
  · subst h0
    refine (Tryz.strings_Join_none A c ⟨#[32]⟩ w).mono fun e w' ⟨he, hw⟩ => ?_
    subst hw
    obtain ⟨g', k1, k2⟩ := ret w' (RowKit.Below.refl _ _)
    exact ⟨_, _, g', he, rfl, k1, k2⟩
  · rcases hA with hA | ⟨b, o, rfl, hA⟩
    · exact absurd (by simpa using hA) h0
    · have hlen : (xs.map strOfNums).length = xs.length := List.length_map _
      have hmap : (xs.map strOfNums).map (fun x => x.data.toList) = xs.map toU := by
        rw [List.map_map]
        rfl
      have hcell : ∀ (j : Nat) x, (xs.map strOfNums)[j]? = some x → w.cell? ⟨b, o + j, none⟩ = some (.string x) := fun j x hj => by
        rw [List.getElem?_map] at hj
        obtain ⟨l, hl1, rfl⟩ := Option.map_eq_some_iff.1 hj
        have hrow : (xs.map fun l => [vs l])[j]? = some [vs l] := by rw [List.getElem?_map, hl1]; rfl
        have := (drows_get hA hrow).2
        simp only [dcells, drep, Nat.mul_one] at this
        obtain ⟨⟨z, z1, _, z3⟩, _⟩ := this
        rw [z1, z3]
      have hpos : 0 < xs.length := List.length_pos_iff.2 h0
      have hbk : b < w.heap.size := by
        have := hcell 0 (strOfNums (xs[0]'hpos)) (by simp [hpos])
        exact cell_lt (o := o + 0) (by rw [this]; rfl)
      have := Tryz.strings_Join b o c (xs.map strOfNums) ⟨#[32]⟩ w hcell hbk (by omega) (by omega) (by
        have := joinL_len hl
        rw [hmap]
        show (Lib.join (xs.map toU) [32]).length ≤ _
        rw [joinL_bytes]
        simp only [toU, List.length_map]
        omega)
      rw [hlen] at this
      refine this.mono fun e w' ⟨he, hw⟩ => ?_
      obtain ⟨g', k1, k2⟩ := ret w' hw
      refine ⟨_, _, g', ?_, rfl, k1, k2⟩
      rw [he, hmap]
      show Ending.returned (.string ⟨(Lib.join (xs.map toU) [32]).toArray⟩) = _
      rw [joinL_bytes]
      rfl
end Go.Proofs.YtkaffcdjhbaifaaGreat

namespace Go.Proofs.YtkaffcdjhbaifaaGreat
open Go.Eng
set_option maxRecDepth 100000
attribute [local irreducible] QV TV WL HW W CallOk Weak

def words (f : Nat → List Int) (k : Nat) : List (List AV) := ((List.range k).map f).map fun l => [vs l]
theorem words_len (f : Nat → List Int) (k : Nat) : (words f k).length = k := by simp [words]
theorem words_app (f : Nat → List Int) (k : Nat) : words f k ++ [[vs (f k)]] = words f (k + 1) := by simp [words, List.range_succ]
theorem word_cells (l : List Int) : ∀ x ∈ [[vs l]].flatten, isCell x = true := by
  intro x hx
  simp only [List.flatten_cons, List.flatten_nil, List.append_nil, List.mem_singleton] at hx
  rw [hx]; rfl
theorem word_lens (l : List Int) : ∀ r ∈ [[vs l]], r.length = 1 := by
  intro r hr
  rw [List.mem_singleton.1 hr]; rfl
end Go.Proofs.YtkaffcdjhbaifaaGreat

namespace Go.Proofs.YtkaffcdjhbaifaaGreat
open Go.Eng
set_option maxRecDepth 100000
attribute [local irreducible] QV TV WL HW W CallOk Weak

structure Th where
  h : Int
  v : Int
  m : Int
  d : Int
  deriving DecidableEq
abbrev Th.row (t : Th) : List AV := [vi t.h, vi t.v, vi t.m, vi t.d]
abbrev Th.av (t : Th) : AV := .agg [vi t.h, vi t.v, vi t.m, vi t.d]
abbrev iRow (n : Int) : List AV := [vi n]
abbrev slI (l : List Int) : AV := .sl 1 (l.map iRow)
abbrev vu (n : Nat) : AV := .v (.int .u64 (n : Int))
theorem wu_neg {n : Int} (h : -9223372036854775808 ≤ n ∧ n < 0) : IntKind.u64.wrap (0 - IntKind.u64.wrap n) = (n.natAbs : Int) := by
  simp [IntKind.wrap, IntKind.bits, IntKind.signed]; omega
theorem wu_pos {n : Int} (h : 0 ≤ n ∧ n ≤ 9223372036854775807) : IntKind.u64.wrap n = (n.natAbs : Int) := by
  simp [IntKind.wrap, IntKind.bits, IntKind.signed]; omega

theorem gcd_step (a b : Int) : Int.gcd b (a.tmod b) = Int.gcd a b := by
  simp only [Int.gcd, Int.natAbs_tmod]
  rw [Nat.gcd_comm a.natAbs b.natAbs, Nat.gcd_comm b.natAbs, ← Nat.gcd_rec]
theorem tmod_lt {a b : Int} (hb : b ≠ 0) : (a.tmod b).natAbs < b.natAbs := by
  rw [Int.natAbs_tmod]
  exact Nat.mod_lt _ (by omega)
theorem gcd_le {a b : Int} {m : Nat} (ha : a.natAbs ≤ m) (hb : b.natAbs ≤ m) : Int.gcd a b ≤ m := by
  unfold Int.gcd
  by_cases h : a.natAbs = 0
  · rw [h, Nat.gcd_zero_left]; exact hb
  · exact Nat.le_trans (Nat.gcd_le_left _ (by omega)) ha
theorem l08Gcd_ok (a b : Int) (ha : -9223372036854775807 ≤ a ∧ a ≤ 9223372036854775807) (hb : -9223372036854775807 ≤ b ∧ b ≤ 9223372036854775807) : CallOk Tryz.prog 95 [vi a, vi b] (fun r => r = vi (Int.gcd a b)) := by
  refine callOk Tryz.func95 Tryz.ntmps95 Tryz.results95 rfl rfl rfl fun B w0 I0 => ?_
  (repeat (first | refine WL_nil ?_ | (apply wl0 (hd := rfl); (first | exact qv9); (exact gy0)) | (apply wlb (hd := rfl); exact qbx; (exact gy0); rfl) | refine wln ⟨_, rfl, rfl⟩ rfl ?_ | refine wlnu ⟨_, rfl, rfl⟩ rfl ?_ | refine wst rfl rfl rfl List.not_mem_nil rfl rfl rfl rfl rfl rfl ?_ | refine W_condT rfl ?_ | refine W_condF rfl ?_ | refine W_region ?_ | refine wN rfl ?_))
  refine W_loop (fun n s => ∃ x y : Int, n = y.natAbs ∧ Int.gcd x y = Int.gcd a b ∧ x.natAbs ≤ 9223372036854775807 ∧ y.natAbs ≤ 9223372036854775807 ∧ s = ⟨[(0, vi x), (1, vi y)], [], []⟩) ⟨_, _, ⟨a, b, rfl, rfl, by omega, by omega, rfl⟩, wkA⟩ ?_
  rintro n s ⟨x, y, rfl, hg, hx, hy, rfl⟩
  (repeat (first | refine WL_nil ?_ | (apply wl0 (hd := rfl); (first | exact qv9); (exact gy0)) | (apply wlb (hd := rfl); exact qbx; (exact gy0); rfl) | refine wln ⟨_, rfl, rfl⟩ rfl ?_ | refine wlnu ⟨_, rfl, rfl⟩ rfl ?_ | refine wst rfl rfl rfl List.not_mem_nil rfl rfl rfl rfl rfl rfl ?_ | refine W_condT rfl ?_ | refine W_condF rfl ?_ | refine W_region ?_ | refine wN rfl ?_))
  (refine W_cond rfl (fun hc => ?_) (fun hc => ?_))
  · have h0 : y ≠ 0 := by simpa using hc
    have hl := tmod_lt (a := x) h0
    (repeat (first | refine WL_nil ?_ | (apply wl0 (hd := rfl); (first | exact qv9); (exact gy0)) | (apply wlb (hd := rfl); exact qbx; (exact gy0); rfl) | refine wln ⟨_, rfl, rfl⟩ rfl ?_ | refine wlnu ⟨_, rfl, rfl⟩ rfl ?_ | refine wst rfl rfl rfl List.not_mem_nil rfl rfl rfl rfl rfl rfl ?_ | refine W_condT rfl ?_ | refine W_condF rfl ?_ | refine W_region ?_ | refine wN rfl ?_))
    refine wdraw 6 (by kernel_rfl) (by kernel_rfl) (by kernel_rfl) rfl ?_
    (repeat (first | refine HW_nil ?_ | (apply hw0 (hd := rfl); (first | exact qv9 | exact QV_div rfl rfl h0 rfl); (exact gy0)) | (apply hwb (hd := rfl); exact qbx; (exact gy0); rfl) | refine hwn ⟨_, rfl, rfl⟩ rfl ?_ | refine hwnu ⟨_, rfl, rfl⟩ rfl ?_))
    (repeat (first | refine WL_nil ?_ | (apply wl0 (hd := rfl); (first | exact qv9); (exact gy0)) | (apply wlb (hd := rfl); exact qbx; (exact gy0); rfl) | refine wln ⟨_, rfl, rfl⟩ rfl ?_ | refine wlnu ⟨_, rfl, rfl⟩ rfl ?_ | refine wst rfl rfl rfl List.not_mem_nil rfl rfl rfl rfl rfl rfl ?_ | refine W_condT rfl ?_ | refine W_condF rfl ?_ | refine W_region ?_ | refine wN rfl ?_))
    refine Exists.intro _ (Exists.intro _ ⟨?_, ⟨y, x.tmod y, rfl, by rw [gcd_step, hg], hy, by omega, rfl⟩, wkA⟩)
    exact hl
  · have h0 : y = 0 := by simpa using hc
    subst h0
    (repeat (first | refine WL_nil ?_ | (apply wl0 (hd := rfl); (first | exact qv9); (exact gy0)) | (apply wlb (hd := rfl); exact qbx; (exact gy0); rfl) | refine wln ⟨_, rfl, rfl⟩ rfl ?_ | refine wlnu ⟨_, rfl, rfl⟩ rfl ?_ | refine wst rfl rfl rfl List.not_mem_nil rfl rfl rfl rfl rfl rfl ?_ | refine W_condT rfl ?_ | refine W_condF rfl ?_ | refine W_region ?_ | refine wN rfl ?_))
    refine Exists.intro _ ⟨Weak.refl _, Exists.intro _ ⟨resA_tmp rfl rfl, ?_, rfl⟩⟩
    refine vi_eq ?_
    rw [← hg, Int.gcd_zero_right]
    omega
def gcdL (l : List Int) : Nat := l.foldl (fun d n => Nat.gcd d n.natAbs) 0
theorem gcdL_succ {l : List Int} {i : Nat} {n : Int} (h : l[i]? = some n) : gcdL (l.take (i + 1)) = Nat.gcd (gcdL (l.take i)) n.natAbs := by
  unfold gcdL
  rw [List.take_add_one, h]
  simp
theorem gcdL_le {l : List Int} {m : Nat} (h : ∀ n ∈ l, n.natAbs ≤ m) : gcdL l ≤ m := by
  have : ∀ (l : List Int) (d : Nat), d ≤ m → (∀ n ∈ l, n.natAbs ≤ m) → l.foldl (fun d n => Nat.gcd d n.natAbs) d ≤ m := by
    intro l
    induction l with
    | nil => intro d hd _; exact hd
    | cons x l ih =>
      intro d hd hl
      refine ih _ ?_ fun n hn => hl n (by simp [hn])
      show Nat.gcd d x.natAbs ≤ m
      have hx := hl x (by simp)
      by_cases h0 : d = 0
      · rw [h0, Nat.gcd_zero_left]; exact hx
      · exact Nat.le_trans (Nat.gcd_le_left _ (by omega)) hd
  exact this l 0 (by omega) h
theorem magnitude_ok (n : Int) (hn : -9223372036854775808 ≤ n ∧ n ≤ 9223372036854775807) : CallOk Tryz.prog 102 [vi n] (fun r => r = vu n.natAbs) := by
  refine callOk Tryz.func102 Tryz.ntmps102 Tryz.results102 rfl rfl rfl fun B w0 I0 => ?_
  (repeat (first | refine WL_nil ?_ | (apply wl0 (hd := rfl); (first | exact qv9); (exact gy0)) | (apply wlb (hd := rfl); exact qbx; (exact gy0); rfl) | refine wln ⟨_, rfl, rfl⟩ rfl ?_ | refine wlnu ⟨_, rfl, rfl⟩ rfl ?_ | refine wst rfl rfl rfl List.not_mem_nil rfl rfl rfl rfl rfl rfl ?_ | refine W_condT rfl ?_ | refine W_condF rfl ?_ | refine W_region ?_ | refine wN rfl ?_))
  (refine W_cond rfl (fun hc => ?_) (fun hc => ?_))
  · (repeat (first | refine WL_nil ?_ | (apply wl0 (hd := rfl); (first | exact qv9 | exact QV_conv (by rw [Tryz.underlying3]; rfl) Tryz.underlying105 rfl); (exact gy0)) | (apply wlb (hd := rfl); exact qbx; (exact gy0); rfl) | refine wln ⟨_, rfl, rfl⟩ rfl ?_ | refine wlnu ⟨_, rfl, rfl⟩ rfl ?_ | refine wst rfl rfl rfl List.not_mem_nil rfl rfl rfl rfl rfl rfl ?_ | refine W_condT rfl ?_ | refine W_condF rfl ?_ | refine W_region ?_ | refine wN rfl ?_))
    refine Exists.intro _ ⟨Weak.refl _, Exists.intro _ ⟨resA_tmp rfl rfl, ?_, rfl⟩⟩
    simp at hc
    show AV.v (.int .u64 (IntKind.u64.wrap (0 - IntKind.u64.wrap n))) = _
    rw [wu_neg (by omega)]
  · (repeat (first | refine WL_nil ?_ | (apply wl0 (hd := rfl); (first | exact qv9 | exact QV_conv (by rw [Tryz.underlying3]; rfl) Tryz.underlying105 rfl); (exact gy0)) | (apply wlb (hd := rfl); exact qbx; (exact gy0); rfl) | refine wln ⟨_, rfl, rfl⟩ rfl ?_ | refine wlnu ⟨_, rfl, rfl⟩ rfl ?_ | refine wst rfl rfl rfl List.not_mem_nil rfl rfl rfl rfl rfl rfl ?_ | refine W_condT rfl ?_ | refine W_condF rfl ?_ | refine W_region ?_ | refine wN rfl ?_))
    refine Exists.intro _ ⟨Weak.refl _, Exists.intro _ ⟨resA_tmp rfl rfl, ?_, rfl⟩⟩
    simp at hc
    show AV.v (.int .u64 (IntKind.u64.wrap n)) = _
    rw [wu_pos (by omega)]
def iat (l : List Int) (i : Nat) : Int := l.getD i 0
theorem iat_lt {l : List Int} {i : Nat} (h : i < l.length) : l[i]? = some (iat l i) := by
  simp [iat, h]
theorem commonDivisor_ok (l : List Int) (hn : l.length ≤ 1048576) (hl : ∀ n ∈ l, n.natAbs ≤ 9223372036854775807) : CallOk Tryz.prog 93 [slI l] (fun r => r = vi (gcdL l)) := by
  refine callOk Tryz.func93 Tryz.ntmps93 Tryz.results93 rfl rfl rfl fun B w0 I0 => ?_
  (repeat (first | refine WL_nil ?_ | (apply wl0 (hd := rfl); (first | exact qv9); (exact gy0)) | (apply wlb (hd := rfl); exact qbx; (exact gy0); rfl) | refine wln ⟨_, rfl, rfl⟩ rfl ?_ | refine wlnu ⟨_, rfl, rfl⟩ rfl ?_ | refine wst rfl rfl rfl List.not_mem_nil rfl rfl rfl rfl rfl rfl ?_ | refine W_condT rfl ?_ | refine W_condF rfl ?_ | refine W_region ?_ | refine wN rfl ?_))
  refine W_loop (fun n s => ∃ k : Nat, k ≤ l.length ∧ n = l.length - k ∧ s = ⟨[(3, vu (gcdL (l.take k))), (7, slI l), (8, vi l.length), (9, vi k)], [], []⟩) ⟨_, _, ⟨0, by omega, rfl, rfl⟩, wkA⟩ ?_
  rintro n s ⟨k, hk, rfl, rfl⟩
  by_cases hlt : k < l.length
  · have hp := iat_lt hlt
    have hb := hl _ (List.mem_of_getElem? hp)
    have hg := gcdL_le (l := l.take k) (m := 9223372036854775807) fun n hn => hl n (List.mem_of_mem_take hn)
    have hmag := magnitude_ok (iat l k) (by omega)
    (repeat (first | refine WL_nil ?_ | (apply wl0 (hd := rfl); (first | exact qv9); (exact gy0)) | (apply wlb (hd := rfl); exact qbx; (exact gy0); rfl) | refine wln ⟨_, rfl, rfl⟩ rfl ?_ | refine wlnu ⟨_, rfl, rfl⟩ rfl ?_ | refine wst rfl rfl rfl List.not_mem_nil rfl rfl rfl rfl rfl rfl ?_ | refine W_condT rfl ?_ | refine W_condF rfl ?_ | refine W_region ?_ | refine wN rfl ?_))
    (refine W_cond rfl (fun hc => ?_) (fun hc => ?_))
    · (repeat (first | refine WL_nil ?_ | (apply wl0 (hd := rfl); (first | exact qv9 | exact q_callA (hmag) | exact QV_indexAddr rfl rfl rfl rfl (row_at hp)); (exact gy0)) | (apply wlb (hd := rfl); exact qbx; (exact gy0); rfl) | refine wln ⟨_, rfl, rfl⟩ rfl ?_ | refine wlnu ⟨_, rfl, rfl⟩ rfl ?_ | refine wst rfl rfl rfl List.not_mem_nil rfl rfl rfl rfl rfl rfl ?_ | refine W_condT rfl ?_ | refine W_condF rfl ?_ | refine W_region ?_ | refine wN rfl ?_))
      refine W_loop (fun n s => ∃ d m : Nat, n = m ∧ Nat.gcd d m = Nat.gcd (gcdL (l.take k)) (iat l k).natAbs ∧ s = ⟨[(3, vu d), (6, vu m), (7, slI l), (8, vi l.length), (9, vi k)], [], []⟩) ⟨_, _, ⟨_, _, rfl, rfl, rfl⟩, wkA⟩ ?_
      rintro n s ⟨d, m, rfl, hgm, rfl⟩
      (repeat (first | refine WL_nil ?_ | (apply wl0 (hd := rfl); (first | exact qv9); (exact gy0)) | (apply wlb (hd := rfl); exact qbx; (exact gy0); rfl) | refine wln ⟨_, rfl, rfl⟩ rfl ?_ | refine wlnu ⟨_, rfl, rfl⟩ rfl ?_ | refine wst rfl rfl rfl List.not_mem_nil rfl rfl rfl rfl rfl rfl ?_ | refine W_condT rfl ?_ | refine W_condF rfl ?_ | refine W_region ?_ | refine wN rfl ?_))
      (refine W_cond rfl (fun hc => ?_) (fun hc => ?_))
      · have h0 : (n : Int) ≠ 0 := by simpa using hc
        have hrem : adv .rem .u64 (d : Int) (n : Int) = some (.int .u64 ((d % n : Nat) : Int)) := by
          simp only [adv]
          rw [Int.tmod_eq_emod_of_nonneg (by omega)]
          norm_cast
        (repeat (first | refine WL_nil ?_ | (apply wl0 (hd := rfl); (first | exact qv9); (exact gy0)) | (apply wlb (hd := rfl); exact qbx; (exact gy0); rfl) | refine wln ⟨_, rfl, rfl⟩ rfl ?_ | refine wlnu ⟨_, rfl, rfl⟩ rfl ?_ | refine wst rfl rfl rfl List.not_mem_nil rfl rfl rfl rfl rfl rfl ?_ | refine W_condT rfl ?_ | refine W_condF rfl ?_ | refine W_region ?_ | refine wN rfl ?_))
        refine wdraw 6 (by kernel_rfl) (by kernel_rfl) (by kernel_rfl) rfl ?_
        (repeat (first | refine HW_nil ?_ | (apply hw0 (hd := rfl); (first | exact qv9 | exact QV_div rfl rfl h0 hrem); (exact gy0)) | (apply hwb (hd := rfl); exact qbx; (exact gy0); rfl) | refine hwn ⟨_, rfl, rfl⟩ rfl ?_ | refine hwnu ⟨_, rfl, rfl⟩ rfl ?_))
        (repeat (first | refine WL_nil ?_ | (apply wl0 (hd := rfl); (first | exact qv9); (exact gy0)) | (apply wlb (hd := rfl); exact qbx; (exact gy0); rfl) | refine wln ⟨_, rfl, rfl⟩ rfl ?_ | refine wlnu ⟨_, rfl, rfl⟩ rfl ?_ | refine wst rfl rfl rfl List.not_mem_nil rfl rfl rfl rfl rfl rfl ?_ | refine W_condT rfl ?_ | refine W_condF rfl ?_ | refine W_region ?_ | refine wN rfl ?_))
        refine Exists.intro _ (Exists.intro _ ⟨?_, ⟨n, d % n, rfl, by rw [← hgm, Nat.gcd_comm n, ← Nat.gcd_rec, Nat.gcd_comm], rfl⟩, wkA⟩)
        exact Nat.mod_lt _ (by omega)
      · have h0 : n = 0 := by
          have : (n : Int) = 0 := by simpa using hc
          omega
        subst h0
        rw [Nat.gcd_zero_right] at hgm
        subst hgm
        rw [← gcdL_succ hp]
        (repeat (first | refine WL_nil ?_ | (apply wl0 (hd := rfl); (first | exact qv9); (exact gy0)) | (apply wlb (hd := rfl); exact qbx; (exact gy0); rfl) | refine wln ⟨_, rfl, rfl⟩ rfl ?_ | refine wlnu ⟨_, rfl, rfl⟩ rfl ?_ | refine wst rfl rfl rfl List.not_mem_nil rfl rfl rfl rfl rfl rfl ?_ | refine W_condT rfl ?_ | refine W_condF rfl ?_ | refine W_region ?_ | refine wN rfl ?_))
        refine Exists.intro _ (Exists.intro _ ⟨?_, ⟨k + 1, by omega, rfl, rfl⟩, wkA⟩)
        omega
    · simp at hc; omega
  · (repeat (first | refine WL_nil ?_ | (apply wl0 (hd := rfl); (first | exact qv9); (exact gy0)) | (apply wlb (hd := rfl); exact qbx; (exact gy0); rfl) | refine wln ⟨_, rfl, rfl⟩ rfl ?_ | refine wlnu ⟨_, rfl, rfl⟩ rfl ?_ | refine wst rfl rfl rfl List.not_mem_nil rfl rfl rfl rfl rfl rfl ?_ | refine W_condT rfl ?_ | refine W_condF rfl ?_ | refine W_region ?_ | refine wN rfl ?_))
    (refine W_cond rfl (fun hc => ?_) (fun hc => ?_))
    · simp at hc; omega
    · have hk' : k = l.length := by omega
      subst hk'
      rw [List.take_length]
      have hg := gcdL_le hl
      (repeat (first | refine WL_nil ?_ | (apply wl0 (hd := rfl); (first | exact qv9 | exact QV_conv (by rw [Tryz.underlying105]; rfl) Tryz.underlying3 rfl); (exact gy0)) | (apply wlb (hd := rfl); exact qbx; (exact gy0); rfl) | refine wln ⟨_, rfl, rfl⟩ rfl ?_ | refine wlnu ⟨_, rfl, rfl⟩ rfl ?_ | refine wst rfl rfl rfl List.not_mem_nil rfl rfl rfl rfl rfl rfl ?_ | refine W_condT rfl ?_ | refine W_condF rfl ?_ | refine W_region ?_ | refine wN rfl ?_))
      refine Exists.intro _ ⟨Weak.refl _, Exists.intro _ ⟨resA_tmp rfl rfl, ?_, rfl⟩⟩
      exact vi_eq (w64 (by omega))

def thIn (t : Th) : Bool := inR t.d 1 1000000 && (inR t.h 0 1000000000000 && (inR t.v (-10000000000000) 10000000000000 && inR t.m (-10000000000000) 10000000000000))
def gcd4 (t : Th) : Nat := Nat.gcd (Nat.gcd t.h.natAbs t.v.natAbs) (Nat.gcd t.m.natAbs t.d.natAbs)
def thOk (t : Th) : Bool := thIn t && decide (gcd4 t = 1)
theorem thrustOk_ok (t : Th) : CallOk Tryz.prog 96 [t.av] (fun r => r = vb (thOk t)) := by
  have h1 := l01In_ok t.d 1 1000000
  have h2 := l01In_ok t.h 0 1000000000000
  have h3 := l01In_ok t.v (-10000000000000) 10000000000000
  have h4 := l01In_ok t.m (-10000000000000) 10000000000000
  refine callOk Tryz.func96 Tryz.ntmps96 Tryz.results96 rfl rfl rfl fun B w0 I0 => ?_
  cases e1 : inR t.d 1 1000000
  · rw [e1] at h1
    (repeat (first | refine WL_nil ?_ | (apply wl0 (hd := rfl); (first | exact qv9 | exact q_callA (h1)); (exact gy0)) | (apply wlb (hd := rfl); exact qbx; (exact gy0); rfl) | refine wln ⟨_, rfl, rfl⟩ rfl ?_ | refine wlnu ⟨_, rfl, rfl⟩ rfl ?_ | refine wst rfl rfl rfl List.not_mem_nil rfl rfl rfl rfl rfl rfl ?_ | refine W_condT rfl ?_ | refine W_condF rfl ?_ | refine W_region ?_ | refine wN rfl ?_))
    refine Exists.intro _ ⟨Weak.refl _, Exists.intro _ ⟨resA_tmp rfl rfl, ?_, rfl⟩⟩
    exact vb_eq (by simp [thOk, thIn, e1])
  · rw [e1] at h1
    cases e2 : inR t.h 0 1000000000000
    · rw [e2] at h2
      (repeat (first | refine WL_nil ?_ | (apply wl0 (hd := rfl); (first | exact qv9 | exact q_callA (h1) | exact q_callA (h2)); (exact gy0)) | (apply wlb (hd := rfl); exact qbx; (exact gy0); rfl) | refine wln ⟨_, rfl, rfl⟩ rfl ?_ | refine wlnu ⟨_, rfl, rfl⟩ rfl ?_ | refine wst rfl rfl rfl List.not_mem_nil rfl rfl rfl rfl rfl rfl ?_ | refine W_condT rfl ?_ | refine W_condF rfl ?_ | refine W_region ?_ | refine wN rfl ?_))
      refine Exists.intro _ ⟨Weak.refl _, Exists.intro _ ⟨resA_tmp rfl rfl, ?_, rfl⟩⟩
      exact vb_eq (by simp [thOk, thIn, e2])
    · rw [e2] at h2
      cases e3 : inR t.v (-10000000000000) 10000000000000
      · rw [e3] at h3
        (repeat (first | refine WL_nil ?_ | (apply wl0 (hd := rfl); (first | exact qv9 | exact q_callA (h1) | exact q_callA (h2) | exact q_callA (h3)); (exact gy0)) | (apply wlb (hd := rfl); exact qbx; (exact gy0); rfl) | refine wln ⟨_, rfl, rfl⟩ rfl ?_ | refine wlnu ⟨_, rfl, rfl⟩ rfl ?_ | refine wst rfl rfl rfl List.not_mem_nil rfl rfl rfl rfl rfl rfl ?_ | refine W_condT rfl ?_ | refine W_condF rfl ?_ | refine W_region ?_ | refine wN rfl ?_))
        refine Exists.intro _ ⟨Weak.refl _, Exists.intro _ ⟨resA_tmp rfl rfl, ?_, rfl⟩⟩
        exact vb_eq (by simp [thOk, thIn, e3])
      · rw [e3] at h3
        cases e4 : inR t.m (-10000000000000) 10000000000000
        · rw [e4] at h4
          (repeat (first | refine WL_nil ?_ | (apply wl0 (hd := rfl); (first | exact qv9 | exact q_callA (h1) | exact q_callA (h2) | exact q_callA (h3) | exact q_callA (h4)); (exact gy0)) | (apply wlb (hd := rfl); exact qbx; (exact gy0); rfl) | refine wln ⟨_, rfl, rfl⟩ rfl ?_ | refine wlnu ⟨_, rfl, rfl⟩ rfl ?_ | refine wst rfl rfl rfl List.not_mem_nil rfl rfl rfl rfl rfl rfl ?_ | refine W_condT rfl ?_ | refine W_condF rfl ?_ | refine W_region ?_ | refine wN rfl ?_))
          refine Exists.intro _ ⟨Weak.refl _, Exists.intro _ ⟨resA_tmp rfl rfl, ?_, rfl⟩⟩
          exact vb_eq (by simp [thOk, thIn, e4])
        · rw [e4] at h4
          have b1 := inR_true.1 e1
          have b2 := inR_true.1 e2
          have b3 := inR_true.1 e3
          have b4 := inR_true.1 e4
          have g1 := l08Gcd_ok t.h t.v (by omega) (by omega)
          have g2 := l08Gcd_ok t.m t.d (by omega) (by omega)
          have l1 := gcd_le (a := t.h) (b := t.v) (m := 10000000000000) (by omega) (by omega)
          have l2 := gcd_le (a := t.m) (b := t.d) (m := 10000000000000) (by omega) (by omega)
          have g3 := l08Gcd_ok (Int.gcd t.h t.v) (Int.gcd t.m t.d) (by omega) (by omega)
          (repeat (first | refine WL_nil ?_ | (apply wl0 (hd := rfl); (first | exact qv9 | exact q_callA (h1) | exact q_callA (h2) | exact q_callA (h3) | exact q_callA (h4)); (exact gy0)) | (apply wlb (hd := rfl); exact qbx; (exact gy0); rfl) | refine wln ⟨_, rfl, rfl⟩ rfl ?_ | refine wlnu ⟨_, rfl, rfl⟩ rfl ?_ | refine wst rfl rfl rfl List.not_mem_nil rfl rfl rfl rfl rfl rfl ?_ | refine W_condT rfl ?_ | refine W_condF rfl ?_ | refine W_region ?_ | refine wN rfl ?_))
          refine wdraw 13 (by kernel_rfl) (by kernel_rfl) (by kernel_rfl) rfl ?_
          (repeat (first | refine HW_nil ?_ | (apply hw0 (hd := rfl); (first | exact qv9 | exact q_callA (g1) | exact q_callA (g2) | exact q_callA (g3)); (exact gy0)) | (apply hwb (hd := rfl); exact qbx; (exact gy0); rfl) | refine hwn ⟨_, rfl, rfl⟩ rfl ?_ | refine hwnu ⟨_, rfl, rfl⟩ rfl ?_))
          (repeat (first | refine WL_nil ?_ | (apply wl0 (hd := rfl); (first | exact qv9); (exact gy0)) | (apply wlb (hd := rfl); exact qbx; (exact gy0); rfl) | refine wln ⟨_, rfl, rfl⟩ rfl ?_ | refine wlnu ⟨_, rfl, rfl⟩ rfl ?_ | refine wst rfl rfl rfl List.not_mem_nil rfl rfl rfl rfl rfl rfl ?_ | refine W_condT rfl ?_ | refine W_condF rfl ?_ | refine W_region ?_ | refine wN rfl ?_))
          refine Exists.intro _ ⟨Weak.refl _, Exists.intro _ ⟨resA_tmp rfl rfl, ?_, rfl⟩⟩
          refine vb_eq ?_
          have : (Int.gcd (Int.gcd t.h t.v) (Int.gcd t.m t.d) : Nat) = gcd4 t := rfl
          simp only [thOk, thIn, e1, e2, e3, e4, this, Bool.true_and]
          rw [Bool.eq_iff_iff]
          simp
          omega
end Go.Proofs.YtkaffcdjhbaifaaGreat

namespace Go.Proofs.YtkaffcdjhbaifaaGreat
open Go.Eng
instance eq41 : FlatOk Tryz.prog 41 [true, false] := ⟨_, Tryz.underlying41, by kernel_rfl, by kernel_rfl, .int (by decide) rfl ty3 Tryz.underlying3 (.bool (by decide) rfl ty4 Tryz.underlying4 (.nil))⟩
instance eq54 : FlatOk Tryz.prog 54 [true, true, true] := ⟨_, Tryz.underlying54, by kernel_rfl, by kernel_rfl, .int (by decide) rfl ty3 Tryz.underlying3 (.int (by decide) rfl ty3 Tryz.underlying3 (.int (by decide) rfl ty3 Tryz.underlying3 (.nil)))⟩
instance eq61 : FlatOk Tryz.prog 61 [true, true, true] := ⟨_, Tryz.underlying61, by kernel_rfl, by kernel_rfl, .int (by decide) rfl ty3 Tryz.underlying3 (.int (by decide) rfl ty3 Tryz.underlying3 (.int (by decide) rfl ty3 Tryz.underlying3 (.nil)))⟩
instance eq80 : FlatOk Tryz.prog 80 [true, true] := ⟨_, Tryz.underlying80, by kernel_rfl, by kernel_rfl, .int (by decide) rfl ty3 Tryz.underlying3 (.int (by decide) rfl ty3 Tryz.underlying3 (.nil))⟩
instance eq96 : FlatOk Tryz.prog 96 [true, true, true, true] := ⟨_, Tryz.underlying96, by kernel_rfl, by kernel_rfl, .int (by decide) rfl ty3 Tryz.underlying3 (.int (by decide) rfl ty3 Tryz.underlying3 (.int (by decide) rfl ty3 Tryz.underlying3 (.int (by decide) rfl ty3 Tryz.underlying3 (.nil))))⟩
instance eq101 : FlatOk Tryz.prog 101 [true, true] := ⟨_, Tryz.underlying101, by kernel_rfl, by kernel_rfl, .int (by decide) rfl ty3 Tryz.underlying3 (.int (by decide) rfl ty3 Tryz.underlying3 (.nil))⟩
instance eq123 : FlatOk Tryz.prog 123 [true, true, true, true] := ⟨_, Tryz.underlying123, by kernel_rfl, by kernel_rfl, .int (by decide) rfl ty3 Tryz.underlying3 (.int (by decide) rfl ty3 Tryz.underlying3 (.int (by decide) rfl ty3 Tryz.underlying3 (.int (by decide) rfl ty3 Tryz.underlying3 (.nil))))⟩
end Go.Proofs.YtkaffcdjhbaifaaGreat

namespace Go.Eng
open Go
section
variable {E : En} {bl : List (Nat × List AV)} {tm : List (Nat × AV)} {d : Option Tmp} {ty : TypeId} {pos : String} {af : Array Edge} {gd : Option (Nat × Bool)}
end
end Go.Eng
namespace Go.Proofs.YtkaffcdjhbaifaaGreat
open Go.Eng
set_option maxRecDepth 100000
attribute [local irreducible] QV TV WL HW W CallOk Weak

structure Hg where
  j : Int
  o : Bool
  deriving DecidableEq
abbrev Hg.row (h : Hg) : List AV := [vi h.j, vb h.o]
abbrev Hg.av (h : Hg) : AV := .agg [vi h.j, vb h.o]
abbrev slHg (l : List Hg) : AV := .sl 2 (l.map Hg.row)
def gat (l : List Hg) (i : Nat) : Hg := l.getD i ⟨0, false⟩
theorem gat_lt {l : List Hg} {i : Nat} (h : i < l.length) : l[i]? = some (gat l i) := by
  simp [gat, h]
def hgOf (r : Int) : Hg := ⟨W64 (r.tdiv 2), r.tmod 2 == 1⟩
def hgL (n : Int) (rows : List Int) : List Hg := rows.filterMap fun r => if r < n then some (hgOf r) else none
theorem hgL_succ {n : Int} {rows : List Int} {k : Nat} (h : k < rows.length) : hgL n (rows.take (k + 1)) = hgL n (rows.take k) ++ (if iat rows k < n then [hgOf (iat rows k)] else []) := by
  unfold hgL
  rw [List.take_add_one, iat_lt h, List.filterMap_append]
  split
  · rename_i h2; simp [h2]
  · rename_i h2; simp [h2]
theorem hgL_len (n : Int) (rows : List Int) : (hgL n rows).length ≤ rows.length := List.length_filterMap_le _ _
def hgsB (js : List Jt) (rows : List Int) : Bool := archB js && rows.all fun r => inR r 0 (2 * js.length)
def hgA (js : List Jt) (rows : List Int) : List Hg := bif hgsB js rows then hgL (2 * js.length) rows else []
theorem hgA_len (js : List Jt) (rows : List Int) : (hgA js rows).length ≤ rows.length := by
  unfold hgA
  cases hgsB js rows
  · simp
  · exact hgL_len _ _
theorem hg_cells (l : List Hg) : ∀ x ∈ (l.map Hg.row).flatten, isCell x = true := by
  intro x hx
  obtain ⟨r, hr, hx⟩ := List.mem_flatten.1 hx
  obtain ⟨p, _, rfl⟩ := List.mem_map.1 hr
  simp only [Hg.row, List.mem_cons, List.not_mem_nil, or_false] at hx
  rcases hx with rfl | rfl <;> rfl
theorem hg_lens (l : List Hg) : ∀ r ∈ l.map Hg.row, r.length = 2 := by
  intro r hr
  obtain ⟨p, _, rfl⟩ := List.mem_map.1 hr
  rfl
theorem hgL_app {n : Int} {rows : List Int} {k : Nat} (h : k < rows.length) (hr : iat rows k < n) : (hgL n (rows.take k)).map Hg.row ++ [(hgOf (iat rows k)).row] = (hgL n (rows.take (k + 1))).map Hg.row := by
  rw [hgL_succ h, if_pos hr, List.map_append]
  rfl
theorem hgL_same {n : Int} {rows : List Int} {k : Nat} (h : k < rows.length) (hr : ¬ iat rows k < n) : (hgL n (rows.take k)).map Hg.row = (hgL n (rows.take (k + 1))).map Hg.row := by
  rw [hgL_succ h, if_neg hr, List.append_nil]
end Go.Proofs.YtkaffcdjhbaifaaGreat

namespace Go.Proofs.YtkaffcdjhbaifaaGreat
open Go.Eng
set_option maxRecDepth 100000
attribute [local irreducible] QV TV WL HW W CallOk Weak

structure Rw where
  a : Int
  b : Int
  c : Int
  d : Int
  deriving DecidableEq
abbrev Rw.row (r : Rw) : List AV := [vi r.a, vi r.b, vi r.c, vi r.d]
abbrev Rw.av (r : Rw) : AV := .agg [vi r.a, vi r.b, vi r.c, vi r.d]
abbrev slRw (l : List Rw) : AV := .sl 4 (l.map Rw.row)
def wat (l : List Rw) (i : Nat) : Rw := l.getD i ⟨0, 0, 0, 0⟩
theorem wat_lt {l : List Rw} {i : Nat} (h : i < l.length) : l[i]? = some (wat l i) := by
  simp [wat, h]
def rowB (r : Rw) : Bool := inR r.a (-100) 100 && (inR r.b (-100) 100 && (inR r.c (-1) 1 && inR r.d (-1000000000) 1000000000))
theorem rowB_true {r : Rw} : rowB r = true ↔ (-100 ≤ r.a ∧ r.a ≤ 100) ∧ (-100 ≤ r.b ∧ r.b ≤ 100) ∧ (-1 ≤ r.c ∧ r.c ≤ 1) ∧ -1000000000 ≤ r.d ∧ r.d ≤ 1000000000 := by
  simp [rowB, inR_true]
theorem rowOk_ok (r : Rw) : CallOk Tryz.prog 60 [r.av] (fun x => x = vb (rowB r)) := by
  have h1 := l01In_ok r.a (-100) 100
  have h2 := l01In_ok r.b (-100) 100
  have h3 := l01In_ok r.c (-1) 1
  have h4 := l01In_ok r.d (-1000000000) 1000000000
  refine callOk Tryz.func60 Tryz.ntmps60 Tryz.results60 rfl rfl rfl fun B w0 I0 => ?_
  cases e1 : inR r.a (-100) 100
  · rw [e1] at h1
    (repeat (first | refine WL_nil ?_ | (apply wl0 (hd := rfl); (first | exact qv9 | exact q_callA (h1)); (exact gy0)) | (apply wlb (hd := rfl); exact qbx; (exact gy0); rfl) | refine wln ⟨_, rfl, rfl⟩ rfl ?_ | refine wlnu ⟨_, rfl, rfl⟩ rfl ?_ | refine wst rfl rfl rfl List.not_mem_nil rfl rfl rfl rfl rfl rfl ?_ | refine W_condT rfl ?_ | refine W_condF rfl ?_ | refine W_region ?_ | refine wN rfl ?_))
    refine Exists.intro _ ⟨Weak.refl _, Exists.intro _ ⟨resA_tmp rfl rfl, ?_, rfl⟩⟩
    exact vb_eq (by simp [rowB, e1])
  · rw [e1] at h1
    cases e2 : inR r.b (-100) 100
    · rw [e2] at h2
      (repeat (first | refine WL_nil ?_ | (apply wl0 (hd := rfl); (first | exact qv9 | exact q_callA (h1) | exact q_callA (h2)); (exact gy0)) | (apply wlb (hd := rfl); exact qbx; (exact gy0); rfl) | refine wln ⟨_, rfl, rfl⟩ rfl ?_ | refine wlnu ⟨_, rfl, rfl⟩ rfl ?_ | refine wst rfl rfl rfl List.not_mem_nil rfl rfl rfl rfl rfl rfl ?_ | refine W_condT rfl ?_ | refine W_condF rfl ?_ | refine W_region ?_ | refine wN rfl ?_))
      refine Exists.intro _ ⟨Weak.refl _, Exists.intro _ ⟨resA_tmp rfl rfl, ?_, rfl⟩⟩
      exact vb_eq (by simp [rowB, e2])
    · rw [e2] at h2
      cases e3 : inR r.c (-1) 1
      · rw [e3] at h3
        (repeat (first | refine WL_nil ?_ | (apply wl0 (hd := rfl); (first | exact qv9 | exact q_callA (h1) | exact q_callA (h2) | exact q_callA (h3)); (exact gy0)) | (apply wlb (hd := rfl); exact qbx; (exact gy0); rfl) | refine wln ⟨_, rfl, rfl⟩ rfl ?_ | refine wlnu ⟨_, rfl, rfl⟩ rfl ?_ | refine wst rfl rfl rfl List.not_mem_nil rfl rfl rfl rfl rfl rfl ?_ | refine W_condT rfl ?_ | refine W_condF rfl ?_ | refine W_region ?_ | refine wN rfl ?_))
        refine Exists.intro _ ⟨Weak.refl _, Exists.intro _ ⟨resA_tmp rfl rfl, ?_, rfl⟩⟩
        exact vb_eq (by simp [rowB, e3])
      · rw [e3] at h3
        (repeat (first | refine WL_nil ?_ | (apply wl0 (hd := rfl); (first | exact qv9 | exact q_callA (h1) | exact q_callA (h2) | exact q_callA (h3) | exact q_callA (h4)); (exact gy0)) | (apply wlb (hd := rfl); exact qbx; (exact gy0); rfl) | refine wln ⟨_, rfl, rfl⟩ rfl ?_ | refine wlnu ⟨_, rfl, rfl⟩ rfl ?_ | refine wst rfl rfl rfl List.not_mem_nil rfl rfl rfl rfl rfl rfl ?_ | refine W_condT rfl ?_ | refine W_condF rfl ?_ | refine W_region ?_ | refine wN rfl ?_))
        refine Exists.intro _ ⟨Weak.refl _, Exists.intro _ ⟨resA_tmp rfl rfl, ?_, rfl⟩⟩
        exact vb_eq (by simp [rowB, e1, e2, e3])
theorem implRowOk_ok (r : Rw) : CallOk Tryz.prog 67 [r.av] (fun x => x = vb (rowB r)) := by
  have h1 := within_ok r.a (-100) 100
  have h2 := within_ok r.b (-100) 100
  have h3 := within_ok r.c (-1) 1
  have h4 := within_ok r.d (-1000000000) 1000000000
  refine callOk Tryz.func67 Tryz.ntmps67 Tryz.results67 rfl rfl rfl fun B w0 I0 => ?_
  cases e1 : inR r.a (-100) 100
  · rw [e1] at h1
    (repeat (first | refine WL_nil ?_ | (apply wl0 (hd := rfl); (first | exact qv9 | exact q_callA (h1)); (exact gy0)) | (apply wlb (hd := rfl); exact qbx; (exact gy0); rfl) | refine wln ⟨_, rfl, rfl⟩ rfl ?_ | refine wlnu ⟨_, rfl, rfl⟩ rfl ?_ | refine wst rfl rfl rfl List.not_mem_nil rfl rfl rfl rfl rfl rfl ?_ | refine W_condT rfl ?_ | refine W_condF rfl ?_ | refine W_region ?_ | refine wN rfl ?_))
    refine Exists.intro _ ⟨Weak.refl _, Exists.intro _ ⟨resA_tmp rfl rfl, ?_, rfl⟩⟩
    exact vb_eq (by simp [rowB, e1])
  · rw [e1] at h1
    cases e2 : inR r.b (-100) 100
    · rw [e2] at h2
      (repeat (first | refine WL_nil ?_ | (apply wl0 (hd := rfl); (first | exact qv9 | exact q_callA (h1) | exact q_callA (h2)); (exact gy0)) | (apply wlb (hd := rfl); exact qbx; (exact gy0); rfl) | refine wln ⟨_, rfl, rfl⟩ rfl ?_ | refine wlnu ⟨_, rfl, rfl⟩ rfl ?_ | refine wst rfl rfl rfl List.not_mem_nil rfl rfl rfl rfl rfl rfl ?_ | refine W_condT rfl ?_ | refine W_condF rfl ?_ | refine W_region ?_ | refine wN rfl ?_))
      refine Exists.intro _ ⟨Weak.refl _, Exists.intro _ ⟨resA_tmp rfl rfl, ?_, rfl⟩⟩
      exact vb_eq (by simp [rowB, e2])
    · rw [e2] at h2
      cases e3 : inR r.c (-1) 1
      · rw [e3] at h3
        (repeat (first | refine WL_nil ?_ | (apply wl0 (hd := rfl); (first | exact qv9 | exact q_callA (h1) | exact q_callA (h2) | exact q_callA (h3)); (exact gy0)) | (apply wlb (hd := rfl); exact qbx; (exact gy0); rfl) | refine wln ⟨_, rfl, rfl⟩ rfl ?_ | refine wlnu ⟨_, rfl, rfl⟩ rfl ?_ | refine wst rfl rfl rfl List.not_mem_nil rfl rfl rfl rfl rfl rfl ?_ | refine W_condT rfl ?_ | refine W_condF rfl ?_ | refine W_region ?_ | refine wN rfl ?_))
        refine Exists.intro _ ⟨Weak.refl _, Exists.intro _ ⟨resA_tmp rfl rfl, ?_, rfl⟩⟩
        exact vb_eq (by simp [rowB, e3])
      · rw [e3] at h3
        (repeat (first | refine WL_nil ?_ | (apply wl0 (hd := rfl); (first | exact qv9 | exact q_callA (h1) | exact q_callA (h2) | exact q_callA (h3) | exact q_callA (h4)); (exact gy0)) | (apply wlb (hd := rfl); exact qbx; (exact gy0); rfl) | refine wln ⟨_, rfl, rfl⟩ rfl ?_ | refine wlnu ⟨_, rfl, rfl⟩ rfl ?_ | refine wst rfl rfl rfl List.not_mem_nil rfl rfl rfl rfl rfl rfl ?_ | refine W_condT rfl ?_ | refine W_condF rfl ?_ | refine W_region ?_ | refine wN rfl ?_))
        refine Exists.intro _ ⟨Weak.refl _, Exists.intro _ ⟨resA_tmp rfl rfl, ?_, rfl⟩⟩
        exact vb_eq (by simp [rowB, e1, e2, e3])
theorem rowsOk_ok (l : List Rw) (hn : l.length ≤ 1048576) : CallOk Tryz.prog 48 [slRw l] (fun r => r = vb (l.all rowB)) := by
  refine callOk Tryz.func48 Tryz.ntmps48 Tryz.results48 rfl rfl rfl fun B w0 I0 => ?_
  (repeat (first | refine WL_nil ?_ | (apply wl0 (hd := rfl); (first | exact qv9); (exact gy0)) | (apply wlb (hd := rfl); exact qbx; (exact gy0); rfl) | refine wln ⟨_, rfl, rfl⟩ rfl ?_ | refine wlnu ⟨_, rfl, rfl⟩ rfl ?_ | refine wst rfl rfl rfl List.not_mem_nil rfl rfl rfl rfl rfl rfl ?_ | refine W_condT rfl ?_ | refine W_condF rfl ?_ | refine W_region ?_ | refine wN rfl ?_))
  refine W_loop (fun n s => ∃ k : Nat, k ≤ l.length ∧ n = l.length - k ∧ (l.take k).all rowB = true ∧ s = ⟨[(5, slRw l), (6, vi l.length), (7, vi k)], [], []⟩) ⟨_, _, ⟨0, by omega, rfl, rfl, rfl⟩, wkA⟩ ?_
  rintro n s ⟨k, hk, rfl, hall, rfl⟩
  by_cases hlt : k < l.length
  · have hp := wat_lt hlt
    have h1 := implRowOk_ok (wat l k)
    (repeat (first | refine WL_nil ?_ | (apply wl0 (hd := rfl); (first | exact qv9); (exact gy0)) | (apply wlb (hd := rfl); exact qbx; (exact gy0); rfl) | refine wln ⟨_, rfl, rfl⟩ rfl ?_ | refine wlnu ⟨_, rfl, rfl⟩ rfl ?_ | refine wst rfl rfl rfl List.not_mem_nil rfl rfl rfl rfl rfl rfl ?_ | refine W_condT rfl ?_ | refine W_condF rfl ?_ | refine W_region ?_ | refine wN rfl ?_))
    (refine W_cond rfl (fun hc => ?_) (fun hc => ?_))
    · cases e1 : rowB (wat l k)
      · rw [e1] at h1
        (repeat (first | refine WL_nil ?_ | (apply wl0 (hd := rfl); (first | exact qv9 | exact q_callA (h1) | exact QV_indexAddr rfl rfl rfl rfl (row_at hp)); (exact gy0)) | (apply wlb (hd := rfl); exact qbx; (exact gy0); rfl) | refine wln ⟨_, rfl, rfl⟩ rfl ?_ | refine wlnu ⟨_, rfl, rfl⟩ rfl ?_ | refine wst rfl rfl rfl List.not_mem_nil rfl rfl rfl rfl rfl rfl ?_ | refine W_condT rfl ?_ | refine W_condF rfl ?_ | refine W_region ?_ | refine wN rfl ?_))
        refine Exists.intro _ ⟨Weak.refl _, Exists.intro _ ⟨resA_tmp rfl rfl, ?_, rfl⟩⟩
        exact vb_eq (all_at_false hp e1).symm
      · rw [e1] at h1
        (repeat (first | refine WL_nil ?_ | (apply wl0 (hd := rfl); (first | exact qv9 | exact q_callA (h1) | exact QV_indexAddr rfl rfl rfl rfl (row_at hp)); (exact gy0)) | (apply wlb (hd := rfl); exact qbx; (exact gy0); rfl) | refine wln ⟨_, rfl, rfl⟩ rfl ?_ | refine wlnu ⟨_, rfl, rfl⟩ rfl ?_ | refine wst rfl rfl rfl List.not_mem_nil rfl rfl rfl rfl rfl rfl ?_ | refine W_condT rfl ?_ | refine W_condF rfl ?_ | refine W_region ?_ | refine wN rfl ?_))
        refine Exists.intro _ (Exists.intro _ ⟨?_, ⟨k + 1, by omega, rfl, by rw [all_take_succ hp, hall, e1]; rfl, rfl⟩, wkA⟩)
        omega
    · simp at hc; omega
  · (repeat (first | refine WL_nil ?_ | (apply wl0 (hd := rfl); (first | exact qv9); (exact gy0)) | (apply wlb (hd := rfl); exact qbx; (exact gy0); rfl) | refine wln ⟨_, rfl, rfl⟩ rfl ?_ | refine wlnu ⟨_, rfl, rfl⟩ rfl ?_ | refine wst rfl rfl rfl List.not_mem_nil rfl rfl rfl rfl rfl rfl ?_ | refine W_condT rfl ?_ | refine W_condF rfl ?_ | refine W_region ?_ | refine wN rfl ?_))
    (refine W_cond rfl (fun hc => ?_) (fun hc => ?_))
    · simp at hc; omega
    · have hk' : k = l.length := by omega
      subst hk'
      rw [List.take_length] at hall
      (repeat (first | refine WL_nil ?_ | (apply wl0 (hd := rfl); (first | exact qv9); (exact gy0)) | (apply wlb (hd := rfl); exact qbx; (exact gy0); rfl) | refine wln ⟨_, rfl, rfl⟩ rfl ?_ | refine wlnu ⟨_, rfl, rfl⟩ rfl ?_ | refine wst rfl rfl rfl List.not_mem_nil rfl rfl rfl rfl rfl rfl ?_ | refine W_condT rfl ?_ | refine W_condF rfl ?_ | refine W_region ?_ | refine wN rfl ?_))
      refine Exists.intro _ ⟨Weak.refl _, Exists.intro _ ⟨resA_tmp rfl rfl, ?_, rfl⟩⟩
      exact vb_eq hall.symm
def lhs (t : Th) (r : Rw) : Int := W64 (W64 (W64 (r.a * t.h) + W64 (r.b * t.v)) + W64 (r.c * t.m))
def rhs (t : Th) (r : Rw) : Int := W64 (r.d * t.d)
theorem l10Holds_ok (t : Th) (r : Rw) : CallOk Tryz.prog 63 [t.av, r.av] (fun x => x = vb (decide (lhs t r ≤ rhs t r))) := by
  refine callOk Tryz.func63 Tryz.ntmps63 Tryz.results63 rfl rfl rfl fun B w0 I0 => ?_
  (repeat (first | refine WL_nil ?_ | (apply wl0 (hd := rfl); (first | exact qv9); (exact gy0)) | (apply wlb (hd := rfl); exact qbx; (exact gy0); rfl) | refine wln ⟨_, rfl, rfl⟩ rfl ?_ | refine wlnu ⟨_, rfl, rfl⟩ rfl ?_ | refine wst rfl rfl rfl List.not_mem_nil rfl rfl rfl rfl rfl rfl ?_ | refine W_condT rfl ?_ | refine W_condF rfl ?_ | refine W_region ?_ | refine wN rfl ?_))
  refine Exists.intro _ ⟨Weak.refl _, Exists.intro _ ⟨resA_tmp rfl rfl, ?_, rfl⟩⟩
  rfl
end Go.Proofs.YtkaffcdjhbaifaaGreat

namespace Go.Proofs.YtkaffcdjhbaifaaGreat
open Go.Eng
set_option maxRecDepth 100000
attribute [local irreducible] QV TV WL HW W CallOk Weak

def ascAt (lo hi : Int) (l : List Int) (k : Nat) : Bool := inR (iat l k) lo hi && !(decide (0 < k) && decide (iat l k ≤ iat l (k - 1)))
def ascB (lo hi : Int) (l : List Int) : Bool := (List.range l.length).all (ascAt lo hi l)
theorem ascending_ok (l : List Int) (lo hi : Int) (hn : l.length ≤ 1048576) : CallOk Tryz.prog 66 [slI l, vi lo, vi hi] (fun r => r = vb (ascB lo hi l)) := by
  unfold ascB
  refine callOk Tryz.func66 Tryz.ntmps66 Tryz.results66 rfl rfl rfl fun B w0 I0 => ?_
  (repeat (first | refine WL_nil ?_ | (apply wl0 (hd := rfl); (first | exact qv9); (exact gy0)) | (apply wlb (hd := rfl); exact qbx; (exact gy0); rfl) | refine wln ⟨_, rfl, rfl⟩ rfl ?_ | refine wlnu ⟨_, rfl, rfl⟩ rfl ?_ | refine wst rfl rfl rfl List.not_mem_nil rfl rfl rfl rfl rfl rfl ?_ | refine W_condT rfl ?_ | refine W_condF rfl ?_ | refine W_region ?_ | refine wN rfl ?_))
  refine W_loop (fun n s => ∃ k : Nat, k ≤ l.length ∧ n = l.length - k ∧ (List.range k).all (ascAt lo hi l) = true ∧ s = ⟨[(0, slI l), (1, vi lo), (2, vi hi), (9, slI l), (10, vi l.length), (11, vi k)], [], []⟩) ⟨_, _, ⟨0, by omega, rfl, rfl, rfl⟩, wkA⟩ ?_
  rintro n s ⟨k, hk, rfl, hall, rfl⟩
  by_cases hlt : k < l.length
  · have hp := iat_lt hlt
    have hw := within_ok (iat l k) lo hi
    (repeat (first | refine WL_nil ?_ | (apply wl0 (hd := rfl); (first | exact qv9); (exact gy0)) | (apply wlb (hd := rfl); exact qbx; (exact gy0); rfl) | refine wln ⟨_, rfl, rfl⟩ rfl ?_ | refine wlnu ⟨_, rfl, rfl⟩ rfl ?_ | refine wst rfl rfl rfl List.not_mem_nil rfl rfl rfl rfl rfl rfl ?_ | refine W_condT rfl ?_ | refine W_condF rfl ?_ | refine W_region ?_ | refine wN rfl ?_))
    (refine W_cond rfl (fun hc => ?_) (fun hc => ?_))
    · cases e : inR (iat l k) lo hi
      · rw [e] at hw
        (repeat (first | refine WL_nil ?_ | (apply wl0 (hd := rfl); (first | exact qv9 | exact q_callA (hw) | exact QV_indexAddr rfl rfl rfl rfl (row_at hp)); (exact gy0)) | (apply wlb (hd := rfl); exact qbx; (exact gy0); rfl) | refine wln ⟨_, rfl, rfl⟩ rfl ?_ | refine wlnu ⟨_, rfl, rfl⟩ rfl ?_ | refine wst rfl rfl rfl List.not_mem_nil rfl rfl rfl rfl rfl rfl ?_ | refine W_condT rfl ?_ | refine W_condF rfl ?_ | refine W_region ?_ | refine wN rfl ?_))
        refine Exists.intro _ ⟨Weak.refl _, Exists.intro _ ⟨resA_tmp rfl rfl, ?_, rfl⟩⟩
        exact vb_eq (all_range_false hlt (by simp [ascAt, e])).symm
      · rw [e] at hw
        cases k with
        | zero =>
          (repeat (first | refine WL_nil ?_ | (apply wl0 (hd := rfl); (first | exact qv9 | exact q_callA (hw) | exact QV_indexAddr rfl rfl rfl rfl (row_at hp)); (exact gy0)) | (apply wlb (hd := rfl); exact qbx; (exact gy0); rfl) | refine wln ⟨_, rfl, rfl⟩ rfl ?_ | refine wlnu ⟨_, rfl, rfl⟩ rfl ?_ | refine wst rfl rfl rfl List.not_mem_nil rfl rfl rfl rfl rfl rfl ?_ | refine W_condT rfl ?_ | refine W_condF rfl ?_ | refine W_region ?_ | refine wN rfl ?_))
          refine Exists.intro _ (Exists.intro _ ⟨?_, ⟨1, by omega, rfl, by simp [ascAt, e, List.range_succ], rfl⟩, wkA⟩)
          omega
        | succ j =>
          have hq := iat_lt (show j < l.length by omega)
          have g1 : abin .gtr .i64 ((j + 1 : Nat) : Int) 0 = some (.bool true) := by simp only [abin]; rw [decide_eq_true (by omega)]
          by_cases c : iat l (j + 1) ≤ iat l j
          · have g2 : abin .geq .i64 (iat l j) (iat l (j + 1)) = some (.bool true) := by simp [abin]; omega
            (repeat (first | refine WL_nil ?_ | (apply wl0 (hd := rfl); (first | exact QV_bin rfl rfl g1 | exact QV_bin rfl rfl g2 | exact qv9 | exact q_callA (hw) | exact QV_indexAddr rfl rfl rfl rfl (row_at hp) | exact QV_indexAddr rfl rfl rfl (pred_at j) (row_at hq)); (exact gy0)) | (apply wlb (hd := rfl); exact qbx; (exact gy0); rfl) | refine wln ⟨_, rfl, rfl⟩ rfl ?_ | refine wlnu ⟨_, rfl, rfl⟩ rfl ?_ | refine wst rfl rfl rfl List.not_mem_nil rfl rfl rfl rfl rfl rfl ?_ | refine W_condT rfl ?_ | refine W_condF rfl ?_ | refine W_region ?_ | refine wN rfl ?_))
            refine Exists.intro _ ⟨Weak.refl _, Exists.intro _ ⟨resA_tmp rfl rfl, ?_, rfl⟩⟩
            exact vb_eq (all_range_false hlt (by simp [ascAt, c])).symm
          · have g2 : abin .geq .i64 (iat l j) (iat l (j + 1)) = some (.bool false) := by simp [abin]; omega
            (repeat (first | refine WL_nil ?_ | (apply wl0 (hd := rfl); (first | exact QV_bin rfl rfl g1 | exact QV_bin rfl rfl g2 | exact qv9 | exact q_callA (hw) | exact QV_indexAddr rfl rfl rfl rfl (row_at hp) | exact QV_indexAddr rfl rfl rfl (pred_at j) (row_at hq)); (exact gy0)) | (apply wlb (hd := rfl); exact qbx; (exact gy0); rfl) | refine wln ⟨_, rfl, rfl⟩ rfl ?_ | refine wlnu ⟨_, rfl, rfl⟩ rfl ?_ | refine wst rfl rfl rfl List.not_mem_nil rfl rfl rfl rfl rfl rfl ?_ | refine W_condT rfl ?_ | refine W_condF rfl ?_ | refine W_region ?_ | refine wN rfl ?_))
            refine Exists.intro _ (Exists.intro _ ⟨?_, ⟨j + 2, by omega, rfl, by rw [all_range_succ, hall]; simp [ascAt, e]; omega, rfl⟩, wkA⟩)
            omega
    · simp at hc; omega
  · (repeat (first | refine WL_nil ?_ | (apply wl0 (hd := rfl); (first | exact qv9); (exact gy0)) | (apply wlb (hd := rfl); exact qbx; (exact gy0); rfl) | refine wln ⟨_, rfl, rfl⟩ rfl ?_ | refine wlnu ⟨_, rfl, rfl⟩ rfl ?_ | refine wst rfl rfl rfl List.not_mem_nil rfl rfl rfl rfl rfl rfl ?_ | refine W_condT rfl ?_ | refine W_condF rfl ?_ | refine W_region ?_ | refine wN rfl ?_))
    (refine W_cond rfl (fun hc => ?_) (fun hc => ?_))
    · simp at hc; omega
    · have hk' : k = l.length := by omega
      subst hk'
      (repeat (first | refine WL_nil ?_ | (apply wl0 (hd := rfl); (first | exact qv9); (exact gy0)) | (apply wlb (hd := rfl); exact qbx; (exact gy0); rfl) | refine wln ⟨_, rfl, rfl⟩ rfl ?_ | refine wlnu ⟨_, rfl, rfl⟩ rfl ?_ | refine wst rfl rfl rfl List.not_mem_nil rfl rfl rfl rfl rfl rfl ?_ | refine W_condT rfl ?_ | refine W_condF rfl ?_ | refine W_region ?_ | refine wN rfl ?_))
      refine Exists.intro _ ⟨Weak.refl _, Exists.intro _ ⟨resA_tmp rfl rfl, ?_, rfl⟩⟩
      rw [hall]
      rfl
def pfAt (n : Nat) (ks fs : List Int) (k : Nat) : Bool := ascAt 0 (n - 1) ks k && inR (iat fs k) 1 1000000
def pfHd (rs : List Rw) (ks fs : List Int) : Bool := !decide (40 < rs.length) && (inR ks.length 1 4 && decide (fs.length = ks.length))
def pfB (rs : List Rw) (ks fs : List Int) : Bool := pfHd rs ks fs && (rs.all rowB && (List.range ks.length).all (pfAt rs.length ks fs))
theorem pf_split (n : Nat) (ks fs : List Int) : (List.range ks.length).all (pfAt n ks fs) = (ascB 0 (n - 1) ks && (List.range ks.length).all fun k => inR (iat fs k) 1 1000000) := by
  unfold ascB
  generalize ks.length = m
  induction m with
  | zero => rfl
  | succ m ih =>
    rw [all_range_succ, all_range_succ, all_range_succ, ih]
    simp only [pfAt]
    cases (List.range m).all (ascAt 0 (n - 1) ks) <;> cases ascAt 0 (n - 1) ks m <;> cases inR (iat fs m) 1 1000000 <;> cases (List.range m).all (fun k => inR (iat fs k) 1 1000000) <;> rfl
set_option maxHeartbeats 4000000 in
theorem implProofOk_ok (rs : List Rw) (ks fs : List Int) (hr : rs.length ≤ 1048576) (hn : ks.length ≤ 1048576) (hf : fs.length ≤ 1048576) : CallOk Tryz.prog 46 [slRw rs, .agg [slI ks, slI fs]] (fun r => r = vb (pfB rs ks fs)) := by
  have hw := within_ok ks.length 1 4
  have hro := rowsOk_ok rs hr
  have has := ascending_ok ks 0 (rs.length - 1) hn
  unfold pfB
  rw [pf_split]
  refine callOk Tryz.func46 Tryz.ntmps46 Tryz.results46 rfl rfl rfl fun B w0 I0 => ?_
  by_cases c1 : 40 < rs.length
  · have g1 : abin .gtr .i64 (rs.length : Int) 40 = some (.bool true) := by simp [abin]; omega
    (repeat (first | refine WL_nil ?_ | (apply wl0 (hd := rfl); (first | exact QV_bin rfl rfl g1 | exact qv9); (exact gy0)) | (apply wlb (hd := rfl); exact qbx; (exact gy0); rfl) | refine wln ⟨_, rfl, rfl⟩ rfl ?_ | refine wlnu ⟨_, rfl, rfl⟩ rfl ?_ | refine wst rfl rfl rfl List.not_mem_nil rfl rfl rfl rfl rfl rfl ?_ | refine W_condT rfl ?_ | refine W_condF rfl ?_ | refine W_region ?_ | refine wN rfl ?_))
    refine Exists.intro _ ⟨Weak.refl _, Exists.intro _ ⟨resA_tmp rfl rfl, ?_, rfl⟩⟩
    exact vb_eq (by simp [pfHd, c1])
  · have g1 : abin .gtr .i64 (rs.length : Int) 40 = some (.bool false) := by simp [abin]; omega
    cases e1 : rs.all rowB
    · rw [e1] at hro
      (repeat (first | refine WL_nil ?_ | (apply wl0 (hd := rfl); (first | exact QV_bin rfl rfl g1 | exact qv9 | exact q_callA (hro)); (exact gy0)) | (apply wlb (hd := rfl); exact qbx; (exact gy0); rfl) | refine wln ⟨_, rfl, rfl⟩ rfl ?_ | refine wlnu ⟨_, rfl, rfl⟩ rfl ?_ | refine wst rfl rfl rfl List.not_mem_nil rfl rfl rfl rfl rfl rfl ?_ | refine W_condT rfl ?_ | refine W_condF rfl ?_ | refine W_region ?_ | refine wN rfl ?_))
      refine Exists.intro _ ⟨Weak.refl _, Exists.intro _ ⟨resA_tmp rfl rfl, ?_, rfl⟩⟩
      exact vb_eq (by simp)
    · rw [e1] at hro
      cases c2 : inR ks.length 1 4
      · rw [c2] at hw
        (repeat (first | refine WL_nil ?_ | (apply wl0 (hd := rfl); (first | exact QV_bin rfl rfl g1 | exact qv9 | exact q_callA (hro) | exact q_callA (hw)); (exact gy0)) | (apply wlb (hd := rfl); exact qbx; (exact gy0); rfl) | refine wln ⟨_, rfl, rfl⟩ rfl ?_ | refine wlnu ⟨_, rfl, rfl⟩ rfl ?_ | refine wst rfl rfl rfl List.not_mem_nil rfl rfl rfl rfl rfl rfl ?_ | refine W_condT rfl ?_ | refine W_condF rfl ?_ | refine W_region ?_ | refine wN rfl ?_))
        refine Exists.intro _ ⟨Weak.refl _, Exists.intro _ ⟨resA_tmp rfl rfl, ?_, rfl⟩⟩
        exact vb_eq (by simp [pfHd, c2])
      · rw [c2] at hw
        cases a1 : ascB 0 (rs.length - 1) ks
        · rw [a1] at has
          (repeat (first | refine WL_nil ?_ | (apply wl0 (hd := rfl); (first | exact QV_bin rfl rfl g1 | exact qv9 | exact q_callA (hro) | exact q_callA (hw) | exact q_callA (has)); (exact gy0)) | (apply wlb (hd := rfl); exact qbx; (exact gy0); rfl) | refine wln ⟨_, rfl, rfl⟩ rfl ?_ | refine wlnu ⟨_, rfl, rfl⟩ rfl ?_ | refine wst rfl rfl rfl List.not_mem_nil rfl rfl rfl rfl rfl rfl ?_ | refine W_condT rfl ?_ | refine W_condF rfl ?_ | refine W_region ?_ | refine wN rfl ?_))
          refine Exists.intro _ ⟨Weak.refl _, Exists.intro _ ⟨resA_tmp rfl rfl, ?_, rfl⟩⟩
          exact vb_eq (by simp)
        · rw [a1] at has
          by_cases c3 : fs.length = ks.length
          · have g3 : abin .neq .i64 (fs.length : Int) (ks.length : Int) = some (.bool false) := by simp [abin]; omega
            have hhd : pfHd rs ks fs = true := by simp [pfHd, c1, c2, c3]
            rw [hhd, Bool.true_and, Bool.true_and, Bool.true_and]
            (repeat (first | refine WL_nil ?_ | (apply wl0 (hd := rfl); (first | exact QV_bin rfl rfl g1 | exact QV_bin rfl rfl g3 | exact qv9 | exact q_callA (hro) | exact q_callA (hw) | exact q_callA (has)); (exact gy0)) | (apply wlb (hd := rfl); exact qbx; (exact gy0); rfl) | refine wln ⟨_, rfl, rfl⟩ rfl ?_ | refine wlnu ⟨_, rfl, rfl⟩ rfl ?_ | refine wst rfl rfl rfl List.not_mem_nil rfl rfl rfl rfl rfl rfl ?_ | refine W_condT rfl ?_ | refine W_condF rfl ?_ | refine W_region ?_ | refine wN rfl ?_))
            refine W_loop (fun n s => ∃ k : Nat, k ≤ fs.length ∧ n = fs.length - k ∧ (List.range k).all (fun k => inR (iat fs k) 1 1000000) = true ∧ s = ⟨[(41, slI fs), (42, vi fs.length), (43, vi k)], [], []⟩) ⟨_, _, ⟨0, by omega, rfl, rfl, rfl⟩, wkA⟩ ?_
            rintro n s ⟨k, hk, rfl, hall, rfl⟩
            by_cases hlt : k < fs.length
            · have hp := iat_lt hlt
              have hw2 := within_ok (iat fs k) 1 1000000
              (repeat (first | refine WL_nil ?_ | (apply wl0 (hd := rfl); (first | exact qv9); (exact gy0)) | (apply wlb (hd := rfl); exact qbx; (exact gy0); rfl) | refine wln ⟨_, rfl, rfl⟩ rfl ?_ | refine wlnu ⟨_, rfl, rfl⟩ rfl ?_ | refine wst rfl rfl rfl List.not_mem_nil rfl rfl rfl rfl rfl rfl ?_ | refine W_condT rfl ?_ | refine W_condF rfl ?_ | refine W_region ?_ | refine wN rfl ?_))
              (refine W_cond rfl (fun hc => ?_) (fun hc => ?_))
              · cases e2 : inR (iat fs k) 1 1000000
                · rw [e2] at hw2
                  (repeat (first | refine WL_nil ?_ | (apply wl0 (hd := rfl); (first | exact qv9 | exact q_callA (hw2) | exact QV_indexAddr rfl rfl rfl rfl (row_at hp)); (exact gy0)) | (apply wlb (hd := rfl); exact qbx; (exact gy0); rfl) | refine wln ⟨_, rfl, rfl⟩ rfl ?_ | refine wlnu ⟨_, rfl, rfl⟩ rfl ?_ | refine wst rfl rfl rfl List.not_mem_nil rfl rfl rfl rfl rfl rfl ?_ | refine W_condT rfl ?_ | refine W_condF rfl ?_ | refine W_region ?_ | refine wN rfl ?_))
                  refine Exists.intro _ ⟨Weak.refl _, Exists.intro _ ⟨resA_tmp rfl rfl, ?_, rfl⟩⟩
                  exact vb_eq (all_range_false (by omega) e2).symm
                · rw [e2] at hw2
                  (repeat (first | refine WL_nil ?_ | (apply wl0 (hd := rfl); (first | exact qv9 | exact q_callA (hw2) | exact QV_indexAddr rfl rfl rfl rfl (row_at hp)); (exact gy0)) | (apply wlb (hd := rfl); exact qbx; (exact gy0); rfl) | refine wln ⟨_, rfl, rfl⟩ rfl ?_ | refine wlnu ⟨_, rfl, rfl⟩ rfl ?_ | refine wst rfl rfl rfl List.not_mem_nil rfl rfl rfl rfl rfl rfl ?_ | refine W_condT rfl ?_ | refine W_condF rfl ?_ | refine W_region ?_ | refine wN rfl ?_))
                  refine Exists.intro _ (Exists.intro _ ⟨?_, ⟨k + 1, by omega, rfl, by rw [all_range_succ, hall, e2]; rfl, rfl⟩, wkA⟩)
                  omega
              · simp at hc; omega
            · (repeat (first | refine WL_nil ?_ | (apply wl0 (hd := rfl); (first | exact qv9); (exact gy0)) | (apply wlb (hd := rfl); exact qbx; (exact gy0); rfl) | refine wln ⟨_, rfl, rfl⟩ rfl ?_ | refine wlnu ⟨_, rfl, rfl⟩ rfl ?_ | refine wst rfl rfl rfl List.not_mem_nil rfl rfl rfl rfl rfl rfl ?_ | refine W_condT rfl ?_ | refine W_condF rfl ?_ | refine W_region ?_ | refine wN rfl ?_))
              (refine W_cond rfl (fun hc => ?_) (fun hc => ?_))
              · simp at hc; omega
              · have hk' : k = fs.length := by omega
                subst hk'
                (repeat (first | refine WL_nil ?_ | (apply wl0 (hd := rfl); (first | exact qv9); (exact gy0)) | (apply wlb (hd := rfl); exact qbx; (exact gy0); rfl) | refine wln ⟨_, rfl, rfl⟩ rfl ?_ | refine wlnu ⟨_, rfl, rfl⟩ rfl ?_ | refine wst rfl rfl rfl List.not_mem_nil rfl rfl rfl rfl rfl rfl ?_ | refine W_condT rfl ?_ | refine W_condF rfl ?_ | refine W_region ?_ | refine wN rfl ?_))
                refine Exists.intro _ ⟨Weak.refl _, Exists.intro _ ⟨resA_tmp rfl rfl, ?_, rfl⟩⟩
                rw [← c3, hall]
                rfl
          · have g3 : abin .neq .i64 (fs.length : Int) (ks.length : Int) = some (.bool true) := by simp [abin]; omega
            (repeat (first | refine WL_nil ?_ | (apply wl0 (hd := rfl); (first | exact QV_bin rfl rfl g1 | exact QV_bin rfl rfl g3 | exact qv9 | exact q_callA (hro) | exact q_callA (hw) | exact q_callA (has)); (exact gy0)) | (apply wlb (hd := rfl); exact qbx; (exact gy0); rfl) | refine wln ⟨_, rfl, rfl⟩ rfl ?_ | refine wlnu ⟨_, rfl, rfl⟩ rfl ?_ | refine wst rfl rfl rfl List.not_mem_nil rfl rfl rfl rfl rfl rfl ?_ | refine W_condT rfl ?_ | refine W_condF rfl ?_ | refine W_region ?_ | refine wN rfl ?_))
            refine Exists.intro _ ⟨Weak.refl _, Exists.intro _ ⟨resA_tmp rfl rfl, ?_, rfl⟩⟩
            exact vb_eq (by simp [pfHd, c3])
end Go.Proofs.YtkaffcdjhbaifaaGreat

namespace Go.Proofs.YtkaffcdjhbaifaaGreat
open Go.Eng
set_option maxRecDepth 100000
attribute [local irreducible] QV TV WL HW W CallOk Weak

def sumR (rs : List Rw) (ks fs : List Int) (g : Rw → Int) : Nat → Int
  | 0 => 0
  | k + 1 => sumR rs ks fs g k + iat fs k * g (wat rs (iat ks k).toNat)
def sumP (rs : List Rw) (ks fs : List Int) (g : Rw → Int) : Int := bif pfB rs ks fs then sumR rs ks fs g ks.length else 0
def ispB (rs : List Rw) (ks fs : List Int) : Bool := pfB rs ks fs && (decide (sumP rs ks fs Rw.a = 0) && (decide (sumP rs ks fs Rw.b = 0) && (decide (sumP rs ks fs Rw.c = 0) && decide (sumP rs ks fs Rw.d < 0))))
theorem pf_at {rs : List Rw} {ks fs : List Int} (h : pfB rs ks fs = true) {k : Nat} (hk : k < ks.length) : (0 ≤ iat ks k ∧ iat ks k < rs.length) ∧ (1 ≤ iat fs k ∧ iat fs k ≤ 1000000) ∧ fs.length = ks.length := by
  simp only [pfB, pfHd, Bool.and_eq_true, decide_eq_true_eq] at h
  have h1 := List.all_eq_true.1 h.2.2 k (List.mem_range.2 hk)
  simp only [pfAt, ascAt, Bool.and_eq_true] at h1
  have h2 := inR_true.1 h1.1.1
  have h3 := inR_true.1 h1.2
  exact ⟨by omega, h3, h.1.2.2⟩
theorem pf_len {rs : List Rw} {ks fs : List Int} (h : pfB rs ks fs = true) : 1 ≤ ks.length ∧ ks.length ≤ 4 ∧ rs.all rowB = true := by
  simp only [pfB, pfHd, Bool.and_eq_true, decide_eq_true_eq] at h
  have := inR_true.1 h.1.2.1
  exact ⟨by omega, by omega, h.2.1⟩
theorem wat_ok {rs : List Rw} (h : rs.all rowB = true) {i : Nat} (hi : i < rs.length) : rowB (wat rs i) = true := List.all_eq_true.1 h _ (List.mem_of_getElem? (wat_lt hi))
theorem term_bd {rs : List Rw} {ks fs : List Int} (h : pfB rs ks fs = true) {k : Nat} (hk : k < ks.length) {g : Rw → Int} {m : Int} (hg : ∀ r, rowB r = true → -m ≤ g r ∧ g r ≤ m) : -(1000000 * m) ≤ iat fs k * g (wat rs (iat ks k).toNat) ∧ iat fs k * g (wat rs (iat ks k).toNat) ≤ 1000000 * m := by
  obtain ⟨h1, h2, _⟩ := pf_at h hk
  have h3 := hg _ (wat_ok (pf_len h).2.2 (i := (iat ks k).toNat) (by omega))
  exact mul_bd (a := iat fs k) (m := 1000000) (by omega) h3
theorem sumR_bd {rs : List Rw} {ks fs : List Int} (h : pfB rs ks fs = true) {g : Rw → Int} {m : Int} (hg : ∀ r, rowB r = true → -m ≤ g r ∧ g r ≤ m) : ∀ k, k ≤ ks.length → -(k * (1000000 * m)) ≤ sumR rs ks fs g k ∧ sumR rs ks fs g k ≤ k * (1000000 * m)
  | 0, _ => by simp [sumR]
  | k + 1, hk => by
    have h1 := sumR_bd h hg k (by omega)
    have h2 := term_bd h (show k < ks.length by omega) hg
    simp only [sumR]
    have e : ((k + 1 : Nat) : Int) * (1000000 * m) = k * (1000000 * m) + 1000000 * m := by rw [Int.natCast_add, Int.add_mul]; simp
    rw [e]
    omega
theorem row_a (r : Rw) (h : rowB r = true) : -1000000000 ≤ r.a ∧ r.a ≤ 1000000000 := by rw [rowB_true] at h; omega
theorem row_b (r : Rw) (h : rowB r = true) : -1000000000 ≤ r.b ∧ r.b ≤ 1000000000 := by rw [rowB_true] at h; omega
theorem row_c (r : Rw) (h : rowB r = true) : -1000000000 ≤ r.c ∧ r.c ≤ 1000000000 := by rw [rowB_true] at h; omega
theorem row_d (r : Rw) (h : rowB r = true) : -1000000000 ≤ r.d ∧ r.d ≤ 1000000000 := by rw [rowB_true] at h; omega
theorem sum_small {rs : List Rw} {ks fs : List Int} (h : pfB rs ks fs = true) {g : Rw → Int} (hg : ∀ r, rowB r = true → -1000000000 ≤ g r ∧ g r ≤ 1000000000) {k : Nat} (hk : k ≤ ks.length) : -4000000000000000 ≤ sumR rs ks fs g k ∧ sumR rs ks fs g k ≤ 4000000000000000 := by
  have h1 := sumR_bd h hg k hk
  have h2 := (pf_len h).2.1
  omega
abbrev sumAv (rs : List Rw) (ks fs : List Int) : AV := .tup [vi (sumP rs ks fs Rw.a), vi (sumP rs ks fs Rw.b), vi (sumP rs ks fs Rw.c), vi (sumP rs ks fs Rw.d)]
set_option maxHeartbeats 2000000 in
theorem implIsProof_of (rs : List Rw) (ks fs : List Int) (hr : rs.length ≤ 1048576) (hn : ks.length ≤ 1048576) (hf : fs.length ≤ 1048576) (hsum : CallOk Tryz.prog 28 [slRw rs, .agg [slI ks, slI fs]] (fun r => r = sumAv rs ks fs)) : CallOk Tryz.prog 76 [slRw rs, .agg [slI ks, slI fs]] (fun r => r = vb (ispB rs ks fs)) := by
  have hpf := implProofOk_ok rs ks fs hr hn hf
  unfold ispB
  unfold sumAv at hsum
  obtain ⟨a, ea⟩ : ∃ a, a = sumP rs ks fs Rw.a := ⟨_, rfl⟩
  obtain ⟨b, eb⟩ : ∃ a, a = sumP rs ks fs Rw.b := ⟨_, rfl⟩
  obtain ⟨c, ec⟩ : ∃ a, a = sumP rs ks fs Rw.c := ⟨_, rfl⟩
  obtain ⟨d, ed⟩ : ∃ a, a = sumP rs ks fs Rw.d := ⟨_, rfl⟩
  rw [← ea, ← eb, ← ec, ← ed] at hsum ⊢
  refine callOk Tryz.func76 Tryz.ntmps76 Tryz.results76 rfl rfl rfl fun B w0 I0 => ?_
  cases e : pfB rs ks fs
  · rw [e] at hpf
    (repeat (first | refine WL_nil ?_ | (apply wl0 (hd := rfl); (first | exact qv9 | exact q_callA (hsum) | exact q_callA (hpf)); (exact gy0)) | (apply wlb (hd := rfl); exact qbx; (exact gy0); rfl) | refine wln ⟨_, rfl, rfl⟩ rfl ?_ | refine wlnu ⟨_, rfl, rfl⟩ rfl ?_ | refine wst rfl rfl rfl List.not_mem_nil rfl rfl rfl rfl rfl rfl ?_ | refine W_condT rfl ?_ | refine W_condF rfl ?_ | refine W_region ?_ | refine wN rfl ?_))
    refine Exists.intro _ ⟨Weak.refl _, Exists.intro _ ⟨resA_tmp rfl rfl, ?_, rfl⟩⟩
    rfl
  · rw [e] at hpf
    by_cases za : a = 0
    · have ta : abin .eql .i64 a 0 = some (.bool true) := by simp [abin, za]
      by_cases zb : b = 0
      · have tb : abin .eql .i64 b 0 = some (.bool true) := by simp [abin, zb]
        by_cases zc : c = 0
        · have tc : abin .eql .i64 c 0 = some (.bool true) := by simp [abin, zc]
          have td : abin .lss .i64 d 0 = some (.bool (decide (d < 0))) := rfl
          (repeat (first | refine WL_nil ?_ | (apply wl0 (hd := rfl); (first | exact QV_bin rfl rfl ta | exact QV_bin rfl rfl tb | exact QV_bin rfl rfl tc | exact QV_bin rfl rfl td | exact qv9 | exact q_callA (hsum) | exact q_callA (hpf)); (exact gy0)) | (apply wlb (hd := rfl); exact qbx; (exact gy0); rfl) | refine wln ⟨_, rfl, rfl⟩ rfl ?_ | refine wlnu ⟨_, rfl, rfl⟩ rfl ?_ | refine wst rfl rfl rfl List.not_mem_nil rfl rfl rfl rfl rfl rfl ?_ | refine W_condT rfl ?_ | refine W_condF rfl ?_ | refine W_region ?_ | refine wN rfl ?_))
          refine Exists.intro _ ⟨Weak.refl _, Exists.intro _ ⟨resA_tmp rfl rfl, ?_, rfl⟩⟩
          exact vb_eq (by simp [za, zb, zc])
        · have tc : abin .eql .i64 c 0 = some (.bool false) := by simp [abin, zc]
          (repeat (first | refine WL_nil ?_ | (apply wl0 (hd := rfl); (first | exact QV_bin rfl rfl ta | exact QV_bin rfl rfl tb | exact QV_bin rfl rfl tc | exact qv9 | exact q_callA (hsum) | exact q_callA (hpf)); (exact gy0)) | (apply wlb (hd := rfl); exact qbx; (exact gy0); rfl) | refine wln ⟨_, rfl, rfl⟩ rfl ?_ | refine wlnu ⟨_, rfl, rfl⟩ rfl ?_ | refine wst rfl rfl rfl List.not_mem_nil rfl rfl rfl rfl rfl rfl ?_ | refine W_condT rfl ?_ | refine W_condF rfl ?_ | refine W_region ?_ | refine wN rfl ?_))
          refine Exists.intro _ ⟨Weak.refl _, Exists.intro _ ⟨resA_tmp rfl rfl, ?_, rfl⟩⟩
          exact vb_eq (by simp [zc])
      · have tb : abin .eql .i64 b 0 = some (.bool false) := by simp [abin, zb]
        (repeat (first | refine WL_nil ?_ | (apply wl0 (hd := rfl); (first | exact QV_bin rfl rfl ta | exact QV_bin rfl rfl tb | exact qv9 | exact q_callA (hsum) | exact q_callA (hpf)); (exact gy0)) | (apply wlb (hd := rfl); exact qbx; (exact gy0); rfl) | refine wln ⟨_, rfl, rfl⟩ rfl ?_ | refine wlnu ⟨_, rfl, rfl⟩ rfl ?_ | refine wst rfl rfl rfl List.not_mem_nil rfl rfl rfl rfl rfl rfl ?_ | refine W_condT rfl ?_ | refine W_condF rfl ?_ | refine W_region ?_ | refine wN rfl ?_))
        refine Exists.intro _ ⟨Weak.refl _, Exists.intro _ ⟨resA_tmp rfl rfl, ?_, rfl⟩⟩
        exact vb_eq (by simp [zb])
    · have ta : abin .eql .i64 a 0 = some (.bool false) := by simp [abin, za]
      (repeat (first | refine WL_nil ?_ | (apply wl0 (hd := rfl); (first | exact QV_bin rfl rfl ta | exact qv9 | exact q_callA (hsum) | exact q_callA (hpf)); (exact gy0)) | (apply wlb (hd := rfl); exact qbx; (exact gy0); rfl) | refine wln ⟨_, rfl, rfl⟩ rfl ?_ | refine wlnu ⟨_, rfl, rfl⟩ rfl ?_ | refine wst rfl rfl rfl List.not_mem_nil rfl rfl rfl rfl rfl rfl ?_ | refine W_condT rfl ?_ | refine W_condF rfl ?_ | refine W_region ?_ | refine wN rfl ?_))
      refine Exists.intro _ ⟨Weak.refl _, Exists.intro _ ⟨resA_tmp rfl rfl, ?_, rfl⟩⟩
      exact vb_eq (by simp [za])
end Go.Proofs.YtkaffcdjhbaifaaGreat
