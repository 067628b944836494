/- The long lists of the walks as default proofs. No program in sight. -/
import Derived.Test.YtikbndfbjgdldaaER
namespace Go.Eng
open Go
section
variable {E : En} {bl : List (Nat × List AV)} {tm : List (Nat × AV)} {d : Option Tmp} {ty : TypeId} {pos : String} {af : Array Edge} {gd : Option (Nat × Bool)} {op : Op} {v : AV}
theorem qv0 (h : QV E bl tm ⟨d, op, ty, pos, af, gd⟩ v [] [] := by first | exact q_move rfl | exact q_assign rfl | exact q_load rfl rfl rfl rfl | exact QV_fieldAddr rfl | exact QV_ar rfl rfl rfl (by omega) | exact QV_bin rfl rfl rfl | exact q_loadE rfl rfl | exact q_fieldAddrE rfl rfl | exact QV_not rfl) : QV E bl tm ⟨d, op, ty, pos, af, gd⟩ v [] [] := h
theorem qv1 (h : QV E bl tm ⟨d, op, ty, pos, af, gd⟩ v [] [] := by first | exact q_pick rfl rfl | exact QV_neg' rfl (by omega) | exact QV_neg rfl | exact q_lenM rfl rfl | exact QV_len rfl rfl | exact QV_lenNil rfl | exact QV_extract rfl rfl | exact q_field rfl rfl rfl rfl | exact QV_min rfl rfl | exact QV_max rfl rfl | exact q_build rfl | exact QV_nilCheck rfl trivial | exact QV_nilCheckF rfl | exact q_makeFunc rfl rfl) : QV E bl tm ⟨d, op, ty, pos, af, gd⟩ v [] [] := h
theorem q_callA {x : Operand} {xs : Array Operand} {ts : Array TypeId} {f : Nat} {ys : List AV} {r v : AV} [hf : FnOk E.P f] (h : CallOk E.P f ys (fun r' => r' = r)) (hx : ev tm x = .v (.func (.func f) #[] #[]) := by exact rfl) (ha : LeDs (xs.toList.map (ev tm)) ys := by (repeat' (first | exact LeDs.nil | refine LeDs.cons (by first | exact LeD.v | exact LeD.sl | exact LeD.own | exact LeD.nil | exact LeD.top) ?_ | refine LeDs.agg ?_ ?_)); first | done | fail "open") (ho : ownsIn [] r = true := by exact rfl) (hv : renO 0 r = some v := by exact rfl) :
    QV E bl tm ⟨d, .call ⟨.value x, xs, ts⟩, ty, pos, af, gd⟩ v [] [] := q_call h hx ha ho hv
theorem q_call1A {x : Operand} {xs : Array Operand} {ts : Array TypeId} {f : Nat} {ys : List AV} {r v : AV} (k n : Nat) [hf : FnOk E.P f] (h : CallOk E.P f ys (fun r' => r' = r)) (hx : ev tm x = .v (.func (.func f) #[] #[]) := by exact rfl) (ha : LeDs (xs.toList.map (ev tm)) ys := by (repeat' (first | exact LeDs.nil | refine LeDs.cons (by first | exact LeD.v | exact LeD.sl | exact LeD.own | exact LeD.nil | exact LeD.top) ?_ | refine LeDs.agg ?_ ?_)); first | done | fail "open") (ho : ownsIn [n] r = true := by exact rfl) (hv : renO k r = some v := by exact rfl) :
    QV E bl tm ⟨d, .call ⟨.value x, xs, ts⟩, ty, pos, af, gd⟩ v [] [k + n] := q_call1 k n h hx ha ho hv
theorem q_callSA {x : Operand} {xs : Array Operand} {ts : Array TypeId} {f : Nat} {ys : List AV} {r : AV} [hf : FnOk E.P f] (h : CallOk E.P f ys (fun r' => r' = r)) (hx : ev tm x = .v (.func (.func f) #[] #[]) := by exact rfl) (ha : LeS bl (xs.toList.map (ev tm)) ys := by (repeat' (first | exact LeS.nil | refine LeS.v ?_ | refine LeS.sl ?_ | refine LeS.own ?_ | refine LeS.arr rfl (by first | exact len_map | exact len_mks) (map_lens (fun _ => rfl)) (map_plainB (fun _ => rfl)) ?_ | refine LeS.nilS ?_ | refine LeS.agg ?_ ?_)); first | done | fail "open") (hp : pl r = true := by exact rfl) :
    QV E bl tm ⟨d, .call ⟨.value x, xs, ts⟩, ty, pos, af, gd⟩ r [] [] := QV_callS h hx ha hp
end
section
variable {ops : Array Oper} {tm : List (Nat × AV)} {gd : Option (Nat × Bool)}
theorem gy0 (h : GY ops tm gd := by first | exact trivial | exact ⟨_, rfl, rfl⟩) : GY ops tm gd := h
end
end Go.Eng
