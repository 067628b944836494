/- A thrust is equal to itself; results of two parts. -/
import Derived.Test.YtkieepmkcaipaaaGreatYACn
import Derived.Test.YtkieepmkcaipaaaGreatZ5
import Derived.Test.YtkieepmkcaipaaaGreatYALdLaw
namespace Go.Proofs.YtkieepmkcaipaaaGreat
open Go.Eng
set_option maxRecDepth 100000
attribute [local irreducible] QV TV WL HW W CallOk CallOkA Weak

theorem eqThrust_ok (t : Th) : CallOk Tryz.prog 40 [t.av, t.av] (fun r => r = vb true) := by
  refine callOk Tryz.func40 Tryz.ntmps40 Tryz.results40 rfl rfl rfl fun B w0 M I0 V0 => ?_
  (repeat (first | refine WL_nil ?_ | (apply wl0 (hd := rfl); (first | exact q_neS rfl rfl rfl | exact qv0 | exact QV_bne Tryz.underlying4 rfl rfl | exact QV_beq Tryz.underlying4 rfl rfl | exact qv1); (exact gy0)) | (apply wlb (hd := rfl); (first | exact q_box rfl rfl rfl | exact q_alloc); (exact gy0); rfl) | refine wln ⟨_, rfl, rfl⟩ rfl ?_ | refine wlnu ⟨_, rfl, rfl⟩ rfl ?_ | refine wst rfl rfl rfl List.not_mem_nil rfl rfl rfl rfl rfl rfl ?_ | refine W_seq ?_ | refine W_condT rfl ?_ | refine W_condF rfl ?_ | refine W_region ?_ | refine W_skip ?_ | refine W_ret ?_ | refine W_block ?_ | refine W_exit ?_))
  refine Exists.intro _ ⟨Weak.refl _, Exists.intro _ ⟨resA_tmp rfl rfl, ?_, rfl⟩⟩
  rfl
def thD (o : Option Th) : Th := o.getD thZ
theorem thO_eq (o : Option Th) : thO o = .tup [(thD o).av, vb o.isSome] := by cases o <;> rfl
theorem thO_call {P : Program} {f : Nat} {xs : List AV} {o : Option Th} (h : CallOk P f xs (fun r => r = thO o)) : CallOk P f xs (fun r => r = .tup [(thD o).av, vb o.isSome]) := by rw [← thO_eq]; exact h
theorem thO_callA {P : Program} {f : Nat} {xs : List AV} {o : Option Th} (h : CallOkA P f xs (fun r => r = thO o)) : CallOkA P f xs (fun r => r = .tup [(thD o).av, vb o.isSome]) := by rw [← thO_eq]; exact h
end Go.Proofs.YtkieepmkcaipaaaGreat
