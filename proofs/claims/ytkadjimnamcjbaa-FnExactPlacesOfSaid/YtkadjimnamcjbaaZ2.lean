/- My walking engine, part 2: abstract values of Go, and the rules of a walk over them. No program in sight. -/
import Derived.Test.YtkadjimnamcjbaaZ1
import Derived.ArgAppend
import Derived.Laws.StructEq
import Derived.ScopeJumps
import Derived.RangeFuncNested
import Derived.RangeFuncLeaves
import Derived.RangeFuncCalls
namespace Go.Eng
open Go

/-! ### Arrays -/
theorem splice_row : ∀ {rows : List (List AV)} {e j : Nat} {r : List AV}, (∀ r ∈ rows, r.length = e) → r.length = e → j < rows.length → splice rows.flatten (j * e) r = (rows.set j r).flatten
  | [], e, j, r, _, _, h => by simp at h
  | r0 :: rows, e, 0, r, hl, hr, _ => by
    have h0 : r0.length = e := hl r0 (by simp)
    simp [splice, hr, ← h0]
  | r0 :: rows, e, j + 1, r, hl, hr, h => by
    have h0 : r0.length = e := hl r0 (by simp)
    have ih := splice_row (rows := rows) (e := e) (j := j) (r := r) (fun r' h' => hl r' (by simp [h'])) hr (by simpa using h)
    simp only [splice] at ih ⊢
    simp only [List.flatten_cons, List.set_cons_succ, ← ih]
    rw [Nat.add_mul, Nat.one_mul, List.take_append, List.drop_append, hr]
    rw [List.take_of_length_le (by omega : r0.length ≤ j * e + e), List.drop_of_length_le (by omega : r0.length ≤ j * e + e + e)]
    simp only [h0, List.append_assoc, List.nil_append]
    rw [show j * e + e - e = j * e by omega, show j * e + e + e - e = j * e + e by omega]
theorem drop_rows : ∀ {rows : List (List AV)} {e j : Nat} {r : List AV}, (∀ r ∈ rows, r.length = e) → rows[j]? = some r → ∃ rest, rows.flatten.drop (j * e) = r ++ rest
  | [], e, j, r, _, h => by simp at h
  | r0 :: rows, e, 0, r, _, h => by
    simp at h; subst h
    exact ⟨rows.flatten, by simp⟩
  | r0 :: rows, e, j + 1, r, hl, h => by
    have h0 : r0.length = e := hl r0 (by simp)
    obtain ⟨rest, hr⟩ := drop_rows (rows := rows) (fun r' h' => hl r' (by simp [h'])) (by simpa using h)
    refine ⟨rest, ?_⟩
    rw [List.flatten_cons, List.drop_append, List.drop_of_length_le (by rw [Nat.add_mul]; omega), Nat.add_mul, h0, show j * e + 1 * e - e = j * e by omega]
    simpa using hr

section
variable {E : En} {bl : List (Nat × List AV)} {tm : List (Nat × AV)} {d : Option Tmp} {ty : TypeId} {pos : String} {af : Array Edge} {gd : Option (Nat × Bool)}
theorem QV_makeA {t n : Nat} {x y : Operand} {T e by_ : Nat} {z : List Value} {zc : List AV} {k k' : IntKind} {i i' : Int} {len : Nat} [hs : ZSlOk E.P t T e by_ z] [hzc : ZcOk E.P T zc] (hx : ev tm x = .v (.int k i)) (hy : ev tm y = .v (.int k' i')) (hi : i = len) (hi' : i' = len) (hl : len ≤ 1048576) (hb : Nat.ble by_ 1048576 = true) :
    QV E bl tm ⟨d, .makeSlice t x y, ty, pos, af, gd⟩ (.arr n T e len) [(n, (List.replicate len zc).flatten)] [] := by
  intro g w ρ bl' ow' hm _ hf _ hop
  have h1 := hop x (by simp [Op.operands])
  have h2 := hop y (by simp [Op.operands])
  rw [hx] at h1; rw [hy] at h2
  simp only [rep] at h1 h2
  subst hi; subst hi'
  obtain ⟨in0, iz, i1, i2, i3, i4, i5⟩ := hs.sl.info
  obtain ⟨zv, hz, rfl⟩ := hs.zero
  obtain ⟨z', hz', hzc'⟩ := hzc.ok
  have hb := Nat.le_of_ble_eq_true hb
  have hzv : zv = iz := by
    have := hz w
    simpa [zeroValue, typeInfo, i1, i2] using this.symm
  subst hzv
  have hzv' : z' = zv := by
    have := (hz'.zero w).symm.trans (hz w)
    simpa using this
  subst hzv'
  have hmul : by_ * len ≤ 1048576 * 1048576 := Nat.mul_le_mul hb hl
  have hr := run_make (P := E.P) w t T in0 z' hs.sl.und i1 i2 k k' len len (by omega) (Int.le_refl _) (by
    rw [i4]
    have : ((by_ * len : Nat) : Int) ≤ 281474976710656 := by omega
    rwa [Int.natCast_mul] at this) (by omega)
  simp only [Int.toNat_natCast] at hr
  have hcells : (madeCells z'.cells (len * in0.size)).toList = (List.replicate len z'.cells.toList).flatten := by
    have := range_zero z'.cells len
    rw [i3, ← i5]
    simpa [madeCells] using this
  have hreps : reps g w (List.replicate len zc).flatten (madeCells z'.cells (len * in0.size)).toList := by
    rw [hcells]
    have : (List.replicate len zc).flatten = ((List.replicate len z'.cells.toList).flatten).map AV.v := by rw [← hzc']; simp [List.map_flatten]
    rw [this]
    exact reps_lits _
  have hrun : (execOp ρ ⟨d, .makeSlice t x y, ty, pos, af, gd⟩).run E.P w = .ok (.value (.slice (some ⟨w.heap.size, 0, none⟩) len len)) (w.alloc (.cells (madeCells z'.cells (len * in0.size)) T)) := by
    simp only [execOp, h1, h2, Sem.run_bind, hr, Result.andThen_ok, Sem.run_pure]
  rw [hrun]
  obtain ⟨g', m1, m2, m3, m4⟩ := hm.newBlock n (fun q hq => hf (n, (List.replicate len zc).flatten) (by simp) q hq) _ _ T hreps
  refine ⟨g', m1, m2, ?_⟩
  simp only [rep]
  exact ⟨_, len, m3, m4, rfl, Nat.le_refl _, fun _ => rfl⟩
theorem QV_indexA {t : Nat} {x ix : Operand} {n T' T e by_ len : Nat} {k : IntKind} {i : Int} {j : Nat} [hs : SlOk E.P t T e by_] (hx : ev tm x = .arr n T' e len) (hi : ev tm ix = .v (.int k i)) (hj : i = j) (hl : j < len) :
    QV E bl tm ⟨d, .indexAddr t x ix, ty, pos, af, gd⟩ (.ptr n (j * e)) [] [] :=
  QV_pure fun g w ρ hop => by
    have h1 := hop x (by simp [Op.operands])
    have h2 := hop ix (by simp [Op.operands])
    rw [hx] at h1; rw [hi] at h2
    simp only [rep] at h1 h2
    subst hj
    obtain ⟨b, _, h3, _, h4, _⟩ := h1
    obtain ⟨in0, z, hi1, hi2, hi3, hi4, hi5⟩ := hs.info
    have hsz : (sizeOf T).run E.P w = .ok e w := by simp [sizeOf, typeInfo, hi1, hi3]
    refine ⟨.pointer (some ⟨b, 0 + j * e, none⟩), ?_, ?_⟩
    · simp [execOp, h2, h4, Instr.indexAt, asIntOf, run_underlying hs.und, hsz, addr_add, hl]
    · simp only [rep]
      exact ⟨b, h3, by rw [Nat.zero_add]⟩
theorem QV_lenA {t : Nat} {x : Operand} {n T' T e e' by_ len : Nat} [hs : SlOk E.P t T e' by_] (hx : ev tm x = .arr n T' e len) :
    QV E bl tm ⟨d, .call ⟨.builtin .len, #[x], #[t]⟩, ty, pos, af, gd⟩ (.v (.int .i64 len)) [] [] :=
  QV_pure fun g w ρ hop => by
    have h1 := hop x (by simp [Op.operands, Call.operands])
    rw [hx] at h1
    simp only [rep] at h1
    obtain ⟨b, _, _, _, h4, _⟩ := h1
    exact ⟨_, by simp [execOp, resolve, invoke, builtin, Builtin.len_, h4, run_underlying hs.und, goInt]; rfl, by simp only [rep]⟩
theorem q_loadA {t n j e o sz : Nat} {x : Operand} {ag : Bool} {rows : List (List AV)} {r ds : List AV} {v : AV} [ht : TyOk E.P t ag sz] (hx : ev tm x = .ptr n (j * e + o)) (hb : lookB bl n = some rows.flatten) (hl : ∀ r ∈ rows, r.length = e) (hr : rows[j]? = some r) (hd : dropO o r = some ds) (h : loadO ag sz ds = some v) :
    QV E bl tm ⟨d, .load t x, ty, pos, af, gd⟩ v [] [] := by
  obtain ⟨rest, hrest⟩ := drop_rows hl hr
  refine QV_load hx hb ?_
  have h' := loadO_eq h
  have e1 := dropO_eq hd
  have hol : o ≤ r.length := by
    have : ∀ (k : Nat) (l r : List AV), dropO k l = some r → k ≤ l.length := by
      intro k
      induction k with
      | zero => intro l r _; omega
      | succ k ih =>
        intro l r h
        cases l with
        | nil => simp [dropO] at h
        | cons x l => simp only [dropO] at h; have := ih l r h; simp; omega
    exact this o r ds hd
  rw [← List.drop_drop, hrest, List.drop_append_of_le_length hol, e1]
  cases ag
  · simp only [aload, cond_false] at h' ⊢
    cases ds with
    | nil => simp at h'
    | cons x ds => simpa using h'
  · simp only [aload, cond_true] at h' ⊢
    cases hb' : Nat.ble sz ds.length
    · rw [hb'] at h'; cases h'
    · rw [hb'] at h'
      have hle := Nat.le_of_ble_eq_true hb'
      rw [show Nat.ble sz (ds ++ rest).length = true from Nat.ble_eq_true_of_le (by simp; omega)]
      simp only [cond_true] at h' ⊢
      rw [List.take_append_of_le_length hle]
      exact h'
end

section
variable {E : En} {ops : Array Oper} {rest : List Oper} {Q : Exit → St → Prop} {tm : List (Nat × AV)} {bl bl' : List (Nat × List AV)} {ow : List Nat} {ty : TypeId} {pos : String} {af : Array Edge} {v : AV}
/-- A whole element is stored. -/
theorem wstA {x y : Operand} {t n j e : Nat} {ag : Bool} {r : List AV} {rows : List (List AV)} [ht : TyOk E.P t ag e] (hx : ev tm x = .ptr n (j * e)) (hy : evO tm y = some v) (hb : lookB bl n = some rows.flatten) (hro : n ∉ E.ron)
    (hc : isC v = true) (ha : acellsO v = some r) (hall : r.all isCell = true) (hr : Nat.beq r.length e = true) (hj : j < rows.length) (hl : ∀ r ∈ rows, r.length = e) (hs : setBO bl n (rows.set j r).flatten = some bl')
    (hk : WL E ops rest Q ⟨tm, bl', ow⟩) : WL E ops (⟨none, .store t x y, ty, pos, af, none⟩ :: rest) Q ⟨tm, bl, ow⟩ := by
  have e1 := acellsO_eq ha
  have e2 := Nat.eq_of_beq_eq_true hr
  have h1 : j * e + e ≤ rows.flatten.length := by
    rw [flatten_length hl, ← Nat.succ_mul]
    exact Nat.mul_le_mul_right _ hj
  refine WL_t rfl (TV_store rfl hx (evO_ev hy) hb hro hc (by rw [e1]; exact hall) (by rw [e1]; exact e2) h1) ?_
  simp only [St.app, List.nil_append]
  rw [e1, splice_row hl e2 hj, setBO_eq hs]
  exact hk
/-- A part of an element is stored. -/
theorem wstP {x y : Operand} {t n j e o sz : Nat} {ag : Bool} {r0 r cs : List AV} {rows : List (List AV)} [ht : TyOk E.P t ag sz] (hx : ev tm x = .ptr n (j * e + o)) (hy : evO tm y = some v) (hb : lookB bl n = some rows.flatten) (hro : n ∉ E.ron)
    (hc : isC v = true) (ha : acellsO v = some cs) (hall : cs.all isCell = true) (hcs : Nat.beq cs.length sz = true) (hr0 : rows[j]? = some r0) (hp : putO r0 o cs = some r) (hl : ∀ r ∈ rows, r.length = e) (hs : setBO bl n (rows.set j r).flatten = some bl')
    (hk : WL E ops rest Q ⟨tm, bl', ow⟩) : WL E ops (⟨none, .store t x y, ty, pos, af, none⟩ :: rest) Q ⟨tm, bl, ow⟩ := by
  have e1 := acellsO_eq ha
  have e2 := Nat.eq_of_beq_eq_true hcs
  obtain ⟨p1, p2⟩ := putO_eq hp
  have hj : j < rows.length := (List.getElem?_eq_some_iff.1 hr0).1
  have hr0l : r0.length = e := hl r0 (List.mem_of_getElem? hr0)
  have h1 : j * e + o + sz ≤ rows.flatten.length := by
    rw [flatten_length hl]
    have : (j + 1) * e ≤ rows.length * e := Nat.mul_le_mul_right _ hj
    rw [Nat.succ_mul] at this
    omega
  refine WL_t rfl (TV_store rfl hx (evO_ev hy) hb hro hc (by rw [e1]; exact hall) (by rw [e1]; exact e2) h1) ?_
  simp only [St.app, List.nil_append]
  have hsp : splice rows.flatten (j * e + o) (acells v) = (rows.set j r).flatten := by
    have hrl : r.length = e := by rw [← p2]; simp [splice]; omega
    rw [← splice_row hl hrl hj, ← p2, e1]
    obtain ⟨rest', hrest⟩ := drop_rows hl hr0
    have hjl : j * e ≤ rows.flatten.length := by omega
    have htk : rows.flatten.take (j * e + o) = rows.flatten.take (j * e) ++ r0.take o := by
      rw [List.take_add, hrest, List.take_append_of_le_length (by omega)]
    have hdr : rows.flatten.drop (j * e + o + cs.length) = r0.drop (o + cs.length) ++ rest' := by
      rw [show j * e + o + cs.length = j * e + (o + cs.length) by omega, ← List.drop_drop, hrest, List.drop_append_of_le_length (by omega)]
    have hdr2 : rows.flatten.drop (j * e + e) = rest' := by
      rw [← List.drop_drop, hrest, ← hr0l, List.drop_left]
    have hlen : (r0.take o ++ (cs ++ r0.drop (o + cs.length))).length = e := by simp; omega
    simp only [splice, htk, hdr, hlen, hdr2]
    simp [List.append_assoc]
  rw [hsp, setBO_eq hs]
  exact hk
end

/-! ### Calls that give slices of their own -/
mutual
def renO (k : Nat) : AV → Option AV
  | .agg cs => match renOL k cs with | some r => some (.agg r) | none => none
  | .tup cs => match renOL k cs with | some r => some (.tup r) | none => none
  | .own n T e rows => some (.own (k + n) T e rows)
  | x => some x
def renOL (k : Nat) : List AV → Option (List AV)
  | [] => some []
  | x :: xs => match renO k x with
    | none => none
    | some y => match renOL k xs with | some r => some (y :: r) | none => none
end
mutual
theorem renO_eq {k : Nat} : ∀ (x : AV), renO k x = some (ren k x)
  | .agg cs => by simp only [renO, renOL_eq cs, ren]
  | .tup cs => by simp only [renO, renOL_eq cs, ren]
  | .own n T e rows => by simp only [renO, ren]
  | .top => by simp only [renO, ren]
  | .v x => by simp only [renO, ren]
  | .sl e rows => by simp only [renO, ren]
  | .ptr n o => by simp only [renO, ren]
  | .eptr cs => by simp only [renO, ren]
  | .fn f a b => by simp only [renO, ren]
  | .arr n T e l => by simp only [renO, ren]
theorem renOL_eq {k : Nat} : ∀ (xs : List AV), renOL k xs = some (renL k xs)
  | [] => by simp only [renOL, renL]
  | x :: xs => by simp only [renOL, renO_eq x, renOL_eq xs, renL]
end
section
variable {E : En} {bl : List (Nat × List AV)} {tm : List (Nat × AV)} {d : Option Tmp} {ty : TypeId} {pos : String} {af : Array Edge} {gd : Option (Nat × Bool)}
theorem q_call {x : Operand} {xs : Array Operand} {ts : Array TypeId} {f : Nat} {ys : List AV} {r v : AV} [hf : FnOk E.P f] (h : CallOk E.P f ys (fun r' => r' = r)) (hx : ev tm x = .v (.func (.func f) #[] #[])) (ha : LeDs (xs.toList.map (ev tm)) ys) (ho : ownsIn [] r = true) (hv : renO 0 r = some v) :
    QV E bl tm ⟨d, .call ⟨.value x, xs, ts⟩, ty, pos, af, gd⟩ v [] [] := by
  have := QV_call (E := E) (bl := bl) (tm := tm) (d := d) (ty := ty) (pos := pos) (af := af) (gd := gd) (ts := ts) 0 [] h hx ha ho
  rw [renO_eq] at hv
  rw [← Option.some.inj hv]; exact this
/-- .. one such slice, to be known by the name k + n. -/
theorem q_call1 {x : Operand} {xs : Array Operand} {ts : Array TypeId} {f : Nat} {ys : List AV} {r v : AV} (k n : Nat) [hf : FnOk E.P f] (h : CallOk E.P f ys (fun r' => r' = r)) (hx : ev tm x = .v (.func (.func f) #[] #[])) (ha : LeDs (xs.toList.map (ev tm)) ys) (ho : ownsIn [n] r = true) (hv : renO k r = some v) :
    QV E bl tm ⟨d, .call ⟨.value x, xs, ts⟩, ty, pos, af, gd⟩ v [] [k + n] := by
  have := QV_call (E := E) (bl := bl) (tm := tm) (d := d) (ty := ty) (pos := pos) (af := af) (gd := gd) (ts := ts) k [n] h hx ha ho
  rw [renO_eq] at hv
  rw [← Option.some.inj hv]; exact this
end
section
variable {E : En} {ops : Array Oper} {rest : List Oper} {Q : Exit → St → Prop} {K : St → Prop} {tm : List (Nat × AV)} {bl bl0 : List (Nat × List AV)} {ow : List Nat} {d n : Nat} {op : Op} {ty : TypeId} {pos : String} {af : Array Edge} {gd : Option (Nat × Bool)} {v : AV}
theorem wln1 (h : QV E bl tm ⟨some d, op, ty, pos, af, gd⟩ v [] [n]) (hg : GY ops tm gd) (hd : Nat.blt d E.nt = true) (hf : freshB [] [n] ⟨tm, bl, ow⟩ = true) (hk : WL E ops rest Q ⟨(d, v) :: tm, bl, n :: ow⟩) : WL E ops (⟨some d, op, ty, pos, af, gd⟩ :: rest) Q ⟨tm, bl, ow⟩ := wl_gy h hg hd hf hk
theorem hwn1 (h : QV E bl0 tm ⟨some d, op, ty, pos, af, gd⟩ v [] [n]) (hg : GY ops tm gd) (hd : Nat.blt d E.nt = true) (hf : freshB [] [n] ⟨tm, bl, ow⟩ = true) (hk : HW E ops bl0 rest ⟨(d, v) :: tm, bl, n :: ow⟩ K) : HW E ops bl0 (⟨some d, op, ty, pos, af, gd⟩ :: rest) ⟨tm, bl, ow⟩ K := hw_gy h hg hd hf (by simp [namesB]) hk
end

/-! ### An array that is written no more -/
theorem le_freeze {g g' : Gh} {w : World} {n T e : Nat} {rows : List (List AV)} {b : Nat} {arr : Array Value} (hn : n < 1000000) (hm : g.m n = some b) (how : g'.ow n) (hom : g'.om n = some b) (hh : w.heap[b]? = some (.cells arr (g.mt n) (0, 0))) (hr : dreps g'.I w rows.flatten arr.toList) (hl : ∀ r ∈ rows, r.length = e)
    (hmax : rows.length ≤ maxLen) (hI1 : ∀ o, o < rows.length * e → g'.I b o) (hI2 : ∀ o, rows.length * e ≤ o → ¬ g'.I b o) {y : Value} (hy : rep g w (.arr n T e rows.length) y) : ownRep g' w n T e rows y := by
  simp only [rep] at hy
  obtain ⟨b', c', h1, h2, rfl, _, h3⟩ := hy
  have := h3 hn
  subst this
  have : b' = b := by rw [hm] at h1; exact (Option.some.inj h1).symm
  subst this
  have hasz : arr.size = rows.length * e := by
    have := dreps_length hr
    rw [flatten_length hl] at this
    simpa using this
  refine ⟨how, by rw [hom]; rfl, arr.toList, ⟨by simpa using hasz, .inr ⟨b', rows.length, arr, rfl, Nat.zero_le _, by rw [← h2]; exact hh, Nat.le_refl _, hmax, hasz, List.take_of_length_le (by simp [hasz])⟩⟩, hr, hl, fun c hc => ?_⟩
  rw [hom] at hc
  cases hc
  exact ⟨hI1, hI2⟩

/-- Picked from a state whose array 'n' is frozen. -/
def FLe (n T e : Nat) (rows : List (List AV)) (x v : AV) : Prop := (x = .arr n T e rows.length ∧ v = .own n T e rows) ∨ Le [] x v
def FPick (n T e : Nat) (rows : List (List AV)) (tm : List (Nat × AV)) : List (Nat × AV) → Prop
  | [] => True
  | (t, v) :: r => FLe n T e rows (look tm t) v ∧ FPick n T e rows tm r
def noNil : AV → AV → Bool
  | .v (.slice none 0 0), .own .. => false
  | _, _ => true
def noNils (tm : List (Nat × AV)) : List (Nat × AV) → Bool
  | [] => true
  | (t, v) :: r => noNil (look tm t) v && noNils tm r
theorem weak_freeze {E : En} {s s' : St} (hE : E.ron = [] ∧ ∀ b, ¬ E.M b) (n T e : Nat) (rows : List (List AV)) (hb : lookB s.bl n = some rows.flatten) (hl : ∀ r ∈ rows, r.length = e) (hmax : rows.length ≤ 1048576) (hD : ∀ x ∈ rows.flatten, toD x = x) (hn : n ∉ s.ow)
    (h1 : FPick n T e rows s.tm s'.tm) (h2 : ∀ p ∈ s'.bl, p ∈ s.bl) (h3 : refsL (s'.bl.map (·.1)) s'.ow (s'.tm.map (·.2)) = true) (h3' : RefsB (s'.bl.map (·.1)) s.ow s'.bl) (h4 : ∀ k ∈ s'.ow, k = n ∨ k ∈ s.ow) (h5 : ∀ k ∈ s.ow, k ∈ s'.ow) (h6 : noNils s.tm s'.tm = true) (hnb : (s'.bl.map (·.1)).any (Nat.beq n) = false) (hlt : Nat.blt n 1000000 = true) (hpin : ∀ n b T, ¬ E.pin n b T) : Weak E s s' := by
  intro g a w hi
  obtain ⟨b, arr, b1, b2, b3, b4⟩ := hi.mem.blk n _ (lookB_mem hb)
  have hno : ¬ g.ow n := fun h => hn (hi.mem.own n h)
  have hnk : n ∉ s'.bl.map (·.1) := fun h => by
    rw [List.any_eq_true.2 ⟨n, h, by simp⟩] at hnb; cases hnb
  have hdr : dreps g.I w rows.flatten arr.toList := by
    have := dreps_toD b3
    have e1 : rows.flatten.map toD = rows.flatten := by
      have : ∀ l : List AV, (∀ x ∈ l, toD x = x) → l.map toD = l := by
        intro l
        induction l with
        | nil => intro _; rfl
        | cons x l ih => intro h; simp [h x (by simp), ih fun y hy => h y (by simp [hy])]
      exact this _ hD
    rwa [e1] at this
  have hasz : arr.size = rows.length * e := by
    have := dreps_length hdr
    rw [flatten_length hl] at this
    simpa using this
  let g' : Gh := { I := fun c o => g.I c o ∨ (c = b ∧ o < rows.length * e), m := fun k => if k ∈ s'.bl.map (·.1) then g.m k else none, om := fun k => if k = n then some b else g.om k, ow := fun k => k = n ∧ k ∈ s'.ow ∨ g.ow k, mt := g.mt }
  have hmm : ∀ k c, g'.m k = some c → k ∈ s'.bl.map (·.1) ∧ g.m k = some c := fun k c h => by
    by_cases e : k ∈ s'.bl.map (·.1)
    · exact ⟨e, by simpa only [g', e, if_true] using h⟩
    · simp only [g', e, if_false] at h; cases h
  have hoo : ∀ k c, g'.ow k → g'.om k = some c → (k = n ∧ c = b) ∨ (g.ow k ∧ g.om k = some c ∧ k ≠ n) := fun k c h1 h2 => by
    by_cases e : k = n
    · simp only [g', e, if_true, Option.some.injEq] at h2; exact .inl ⟨e, h2.symm⟩
    · rcases h1 with ⟨h1, _⟩ | h1
      · exact absurd h1 e
      · exact .inr ⟨h1, by simpa only [g', e, if_false] using h2, e⟩
  -- what refers to neither the array nor a dropped block reads on
  have keepI : ∀ c o, g.I c o → g'.I c o := fun c o h => .inl h
  have goes : Goes { g with m := g'.m } w g' w := by
    refine ⟨keepI, fun _ _ _ => rfl, fun k c h => h, fun _ _ _ => rfl, fun k T' e' rows' y hy => ?_⟩
    have hk : k ≠ n := fun e => hno (e ▸ hy.1)
    refine ownRep_goes (g := { g with m := g'.m }) (g' := g') keepI (fun _ _ _ => rfl) (fun j hj => ⟨.inr hj, ?_⟩) (fun _ _ _ _ => rfl) (fun j c o hj hc hI => ?_) hy
    · have : j ≠ n := fun e => hno (e ▸ hj)
      simp only [g', this, if_false]
    · rcases hI with hI | ⟨rfl, _⟩
      · exact hI
      · exact (hi.mem.disj n j c b1 hj hc).elim
  have refsRep : ∀ (os : List Nat) (x : AV) (y : Value), refs (s'.bl.map (·.1)) os x = true → rep g w x y → rep g' w x y := fun os x y hr h =>
    rep_goes goes (rep_refs (g := g) (g' := { g with m := g'.m }) (ks := s'.bl.map (·.1)) (os := os) rfl (fun k c hk hc => by simp only [g', hk, if_true]; exact hc) rfl (fun _ _ h => ⟨h, rfl⟩) hr h)
  have refsReps : ∀ (os : List Nat) (xs : List AV) (ys : List Value), refsL (s'.bl.map (·.1)) os xs = true → reps g w xs ys → reps g' w xs ys := by
    intro os xs
    induction xs with
    | nil => intro ys _ h; simpa [reps] using h
    | cons x xs ih =>
      intro ys hr h
      simp only [refsL, Bool.and_eq_true] at hr
      simp only [reps] at h ⊢
      obtain ⟨y, zs, e, k1, k2⟩ := h
      exact ⟨y, zs, e, refsRep os x y hr.1 k1, ih zs hr.2 k2⟩
  have hbB : E.B ≤ b := by
    rcases (hi.mem.mfr n b b1).1 with h | h | h
    · rw [hE.1] at h; simp at h
    · exact h
    · exact absurd h (hE.2 b)
  refine ⟨g', ⟨⟨hi.mem.below, hi.mem.base, fun c o hc => ?_, fun k c h => hi.mem.mfr k c (hmm k c h).2, fun k c k1 k2 => ?_, fun k k' c k1 k2 => hi.mem.minj k k' c (hmm k c k1).2 (hmm k' c k2).2, fun k k' c k1 k2 k3 k4 => ?_, fun k k' c k1 k2 k3 => ?_, fun k cs h => ?_, fun k c h => ?_, fun k h => ?_, fun c o hc => ?_, fun c o hc => .inl (hi.mem.iold c o hc), fun k c T h => absurd h (hpin k c T)⟩, fun t => ?_, hi.de, hi.sz⟩⟩
  · rcases hc with hc | ⟨rfl, ho⟩
    · exact hi.mem.cell c o hc
    · rw [cell_of_heap b2]; simp [hasz, ho]
  · rcases hoo k c k1 k2 with ⟨rfl, rfl⟩ | ⟨h7, h8, _⟩
    · exact ⟨.inl hbB, (hi.mem.mfr k c b1).2⟩
    · exact hi.mem.ofr k c h7 h8
  · rcases hoo k c k1 k3 with ⟨rfl, rfl⟩ | ⟨h7, h8, _⟩ <;> rcases hoo k' c k2 k4 with ⟨h9, h10⟩ | ⟨h9, h10, _⟩
    · exact h9.symm
    · exact (hi.mem.disj k k' c b1 h9 h10).elim
    · subst h10; exact (hi.mem.disj n k c b1 h7 h8).elim
    · exact hi.mem.oinj k k' c h7 h9 h8 h10
  · rcases hoo k' c k2 k3 with ⟨rfl, rfl⟩ | ⟨h7, h8, _⟩
    · have := hi.mem.minj k k' c (hmm k c k1).2 b1
      subst this
      exact hnk (hmm k c k1).1
    · exact hi.mem.disj k k' c (hmm k c k1).2 h7 h8
  · obtain ⟨c, ar, k1, k2, k3, k4⟩ := hi.mem.blk k cs (h2 _ h)
    have hk : k ∈ s'.bl.map (·.1) := List.mem_map.2 ⟨_, h, rfl⟩
    refine ⟨c, ar, by simp only [g', hk, if_true]; exact k1, k2, refsReps s.ow cs _ (refsB_mem h3' _ h) k3, fun o ho => ?_⟩
    rcases ho with ho | ⟨rfl, _⟩
    · exact k4 o ho
    · have := hi.mem.minj k n c k1 b1
      subst this
      exact hnk hk
  · obtain ⟨h7, _⟩ := hmm k c h
    obtain ⟨p, hp, rfl⟩ := List.mem_map.1 h7
    exact ⟨p.2, hp⟩
  · rcases h with ⟨_, h⟩ | h
    · exact h
    · exact h5 k (hi.mem.own k h)
  · rcases hc with hc | ⟨rfl, _⟩
    · exact hi.mem.inew c o hc
    · exact .inr (.inl hbB)
  · have pick : ∀ (l : List (Nat × AV)), FPick n T e rows s.tm l → noNils s.tm l = true → look l t = .top ∨ (FLe n T e rows (look s.tm t) (look l t) ∧ noNil (look s.tm t) (look l t) = true) := by
      intro l
      induction l with
      | nil => intro _ _; exact .inl rfl
      | cons p l ih =>
        intro hp hn'
        obtain ⟨k, v⟩ := p
        simp only [FPick] at hp
        simp only [noNils, Bool.and_eq_true] at hn'
        simp only [look]
        cases hb' : Nat.beq k t
        · exact ih hp.2 hn'.2
        · have := Nat.eq_of_beq_eq_true hb'
          subst this
          exact .inr ⟨hp.1, hn'.1⟩
    rcases pick _ h1 h6 with h | ⟨h, h'⟩
    · rw [h]; simp [rep]
    · rcases look_mem (tm := s'.tm) (t := t) with h7 | h7
      · rw [h7]; simp [rep]
      · have hr := refsL_mem h3 h7
        rcases h with ⟨e1, e2⟩ | h
        · rw [e2] at hr ⊢
          simp only [refs] at hr
          have := hi.tm t
          rw [e1] at this
          simp only [rep]
          exact le_freeze (g' := g') (Nat.le_of_ble_eq_true hlt) b1 (.inl ⟨rfl, any_beq hr⟩) (by simp [g']) b2 (dreps_mono keepI (fun _ _ _ => rfl) hdr) hl (by unfold maxLen; omega) (fun o ho => .inr ⟨rfl, ho⟩)
            (fun o ho hI => by rcases hI with hI | ⟨_, hI⟩; exact b4 o hI; omega) this
        · have ht := hi.tm t
          have hrw : ∀ x v : AV, Le [] x v → noNil x v = true → refs (s'.bl.map (·.1)) s'.ow v = true → rep g w x (a.tmps.getD t undef) → rep g' w v (a.tmps.getD t undef) := by
            intro x v hle hnn hr h
            cases hle with
            | refl => exact refsRep _ _ _ hr h
            | eq e => subst e; exact refsRep _ _ _ hr h
            | top => simp [rep]
            | nilOwn _ => simp [noNil] at hnn
            | nilSl =>
              simp only [rep] at h
              rw [h]
              simp only [rep, drep]
              exact ⟨none, 0, rfl, .inl trivial, Nat.zero_le _⟩
            | ownSl =>
              simp only [rep] at h ⊢
              exact drep_mono keepI (fun _ _ _ => rfl) (drep_of_own h)
          exact hrw _ _ h h' hr ht
end Go.Eng

namespace Go.Eng
open Go

def g0 (I : Nat → Nat → Prop) : Gh := ⟨I, fun _ => none, fun _ => none, fun _ => False, fun _ => 0⟩
/-- The contract of a function some of whose arguments are places that are only read. -/
def CallOkE (P : Program) (f : Nat) (args : List AV) (R : AV → Prop) : Prop :=
  ∀ (I : Nat → Nat → Prop) (w : World) (vals : Array Value), (∀ b o, I b o → (w.cell? ⟨b, o, none⟩).isSome = true) → reps (g0 I) w args vals.toList →
    Calls P f vals w fun e w' => ∃ y r g', e = .returned y ∧ R r ∧ rep g' w' r y ∧ Ret I w g' w'

theorem CallOkE_of_W {P : Program} {f nt : Nat} {fn : Func} {rs : Array ResultVar} {c : Code} {args : List AV} {R : AV → Prop} (hf : P.funcs[f]? = some fn) (hnt : fn.ntmps = nt) (hrs : fn.results = rs) (hb : fn.body = some c) (hn : args.length ≤ nt)
    (h : ∀ (B : Nat) (w0 : World) (I0 : Nat → Nat → Prop), W ⟨P, B, w0, nt, fun _ => False, [], I0, fun _ _ _ => False, none, []⟩ c (retQ ⟨P, B, w0, nt, fun _ => False, [], I0, fun _ _ _ => False, none, []⟩ rs.toList R) ⟨(args.zipIdx 0).map fun p => (p.2, p.1), [], []⟩) : CallOkE P f args R := by
  subst hnt; subst hrs
  intro I w vals hI hargs'
  let E : En := ⟨P, w.heap.size, w, fn.ntmps, fun _ => False, [], I, fun _ _ _ => False, none, []⟩
  let g : Gh := g0 I
  have hlen := reps_length hargs'
  refine calls_of_wp hf hb ?_
  refine wp_W (h w.heap.size w I g _ w ⟨⟨BelowM.refl _ _ _, Nat.le_refl _, hI, fun n b h => by simp [g, g0] at h, fun n b h => by simp [g, g0] at h, fun n n' b h => by simp [g, g0] at h, fun n n' b h => by simp [g, g0] at h, fun n n' b h => by simp [g, g0] at h,
    fun n cs h => by simp at h, fun n b h => by simp [g, g0] at h, fun n h => by simp [g, g0] at h, fun b o h => .inl h, fun b o h => h, fun n b T h => h.elim⟩, fun t => ?_, rfl, ?_⟩) fun e a' w' hq => ?_
  · simp only [look_zip, Nat.zero_le, if_true, Nat.sub_zero]
    rcases Nat.lt_or_ge t args.length with h1 | h1
    · obtain ⟨y, hy, hr⟩ := reps_get hargs' (List.getElem?_eq_getElem h1)
      have : t < vals.size := by simpa [← hlen] using h1
      have hy' : vals[t] = y := by simpa [this] using hy
      simp only [List.getD_eq_getElem?_getD, List.getElem?_eq_getElem h1, Option.getD_some]
      simp only [Array.getD_eq_getD_getElem?, Array.getElem?_append_left this, Array.getElem?_eq_getElem this, Option.getD_some, hy']
      exact hr
    · simp only [List.getD_eq_getElem?_getD, List.getElem?_eq_none h1, Option.getD_none, rep]
  · have : vals.size = args.length := by simpa using hlen
    simp; omega
  · obtain ⟨g', s', hq, hi⟩ := hq
    have fin : ∀ s1, Weak E s' s1 → ∀ xs, resA P s1 fn.results.toList xs → R (oneA xs) → refs [] s1.ow (oneA xs) = true → a'.defers = [] ∧ ∃ v, (results fn a'.tmps).run P w' = .ok v w' ∧ ∃ y r g', Ending.returned v = .returned y ∧ R r ∧ rep g' w' r y ∧ Ret I w g' w' := by
      intro s1 hw xs h1 h2 h3
      obtain ⟨g', hi⟩ := hw _ _ _ hi
      obtain ⟨y, k1, k2⟩ := run_results hi h1
      let g2 : Gh := { g' with m := fun _ => none }
      refine ⟨hi.de, y, k1, y, oneA xs, g2, rfl, h2, rep_refs (g := g') (g' := g2) rfl (fun n b hn => by simp at hn) rfl (fun n _ h => ⟨h, rfl⟩) h3 k2, ?_⟩
      exact ⟨⟨hi.mem.below.os, hi.mem.below.tape, hi.mem.below.output, hi.mem.below.size, hi.mem.below.block⟩, hi.mem.iold, fun b o h => (hi.mem.inew b o h).imp id (fun h => h.resolve_right (fun h => h)), hi.mem.cell, fun n b h1 h2 => ⟨(hi.mem.ofr n b h1 h2).1.resolve_right (fun h => h), (hi.mem.ofr n b h1 h2).2⟩, hi.mem.oinj⟩
    cases e with
    | normal => obtain ⟨s1, hw, xs, h1, h2, h3⟩ := hq; exact fin s1 hw xs h1 h2 h3
    | ret => obtain ⟨s1, hw, xs, h1, h2, h3⟩ := hq; exact fin s1 hw xs h1 h2 h3
    | _ => exact hq.elim
theorem callOkE {P : Program} {f nt : Nat} {fn : Func} {rs : Array ResultVar} {c : Code} {args : List AV} {tm : List (Nat × AV)} {R : AV → Prop} (hf : P.funcs[f]? = some fn) (hnt : fn.ntmps = nt) (hrs : fn.results = rs) (hb : fn.body = some c) (hn : Nat.ble args.length nt = true) (htm : iniO 0 args = some tm)
    (h : ∀ (B : Nat) (w0 : World) (I0 : Nat → Nat → Prop), W ⟨P, B, w0, nt, fun _ => False, [], I0, fun _ _ _ => False, none, []⟩ c (retQ ⟨P, B, w0, nt, fun _ => False, [], I0, fun _ _ _ => False, none, []⟩ rs.toList R) ⟨tm, [], []⟩) : CallOkE P f args R :=
  CallOkE_of_W hf hnt hrs hb (Nat.le_of_ble_eq_true hn) (by rw [iniO_eq htm]; exact h)

/-- What is handed to it: data, and the places of its maker's variables. -/
inductive LeE (bl : List (Nat × List AV)) : List AV → List AV → Prop where
  | nil : LeE bl [] []
  | v {x : Value} {xs ys : List AV} (hs : LeE bl xs ys) : LeE bl (.v x :: xs) (.v x :: ys)
  | sl {e : Nat} {rows : List (List AV)} {xs ys : List AV} (hs : LeE bl xs ys) : LeE bl (.sl e rows :: xs) (.sl e rows :: ys)
  | agg {cs ds xs ys : List AV} (h : LeDs cs ds) (hs : LeE bl xs ys) : LeE bl (.agg cs :: xs) (.agg ds :: ys)
  | own {n T e : Nat} {rows : List (List AV)} {xs ys : List AV} (hs : LeE bl xs ys) : LeE bl (.own n T e rows :: xs) (.sl e rows :: ys)
  | ptr {n : Nat} {cs ds xs ys : List AV} (hb : lookB bl n = some cs) (hd : cs.map toD = ds) (hs : LeE bl xs ys) : LeE bl (.ptr n 0 :: xs) (.eptr ds :: ys)
/-- What the maker's variables hold, seen as data. -/
def seen (g : Gh) (w : World) (b o : Nat) : Prop := g.I b o ∨ ((∃ n, g.m n = some b) ∧ (w.cell? ⟨b, o, none⟩).isSome = true)
theorem reps_leE {E : En} {g : Gh} {bl bl' : List (Nat × List AV)} {ow : List Nat} {w : World} (hm : Mem E g bl' ow w) (hbl : ∀ p ∈ bl, p ∈ bl') {xs ys : List AV} (h : LeE bl xs ys) : ∀ {zs : List Value}, reps g w xs zs → reps (g0 (seen g w)) w ys zs := by
  induction h with
  | nil => intro zs h; simpa only [reps] using h
  | v _ ih =>
    intro zs h
    simp only [reps] at h ⊢
    obtain ⟨y, zs', e, h1, h2⟩ := h
    exact ⟨y, zs', e, by simpa only [rep] using h1, ih h2⟩
  | sl _ ih =>
    intro zs h
    simp only [reps] at h ⊢
    obtain ⟨y, zs', e, h1, h2⟩ := h
    refine ⟨y, zs', e, ?_, ih h2⟩
    simp only [rep] at h1 ⊢
    exact drep_mono (fun b o hb => .inl hb) (fun _ _ _ => rfl) h1
  | agg hd _ ih =>
    intro zs h
    simp only [reps, rep] at h ⊢
    obtain ⟨y, zs', e, ⟨a, ea, h1⟩, h2⟩ := h
    exact ⟨y, zs', e, ⟨a, ea, reps_of_dreps (dreps_mono (I := g.I) (fun b o hb => .inl hb) (fun _ _ _ => rfl) (dreps_leDs hd h1))⟩, ih h2⟩
  | own _ ih =>
    intro zs h
    simp only [reps, rep] at h ⊢
    obtain ⟨y, zs', e, h1, h2⟩ := h
    exact ⟨y, zs', e, drep_mono (fun b o hb => .inl hb) (fun _ _ _ => rfl) (drep_of_own h1), ih h2⟩
  | ptr hb hd _ ih =>
    intro zs h
    subst hd
    simp only [reps] at h ⊢
    obtain ⟨y, zs', e, h1, h2⟩ := h
    refine ⟨y, zs', e, ?_, ih h2⟩
    simp only [rep] at h1 ⊢
    obtain ⟨b, h3, rfl⟩ := h1
    obtain ⟨b', arr, k1, k2, k3, k4⟩ := hm.blk _ _ (hbl _ (lookB_mem hb))
    have : b' = b := by rw [h3] at k1; exact (Option.some.inj k1).symm
    subst this
    refine ⟨b', 0, rfl, dcells_of_list (dreps_mono (I := g.I) (fun b o hb => .inl hb) (fun _ _ _ => rfl) (dreps_toD k3)) fun j z hj => ?_⟩
    have hc : w.cell? ⟨b', 0 + j, none⟩ = some z := by rw [cell_of_heap k2, Nat.zero_add]; simpa using hj
    exact ⟨hc, .inr ⟨⟨_, h3⟩, by rw [hc]; rfl⟩⟩
section
variable {E : En} {bl : List (Nat × List AV)} {tm : List (Nat × AV)} {d : Option Tmp} {ty : TypeId} {pos : String} {af : Array Edge} {gd : Option (Nat × Bool)}
theorem QV_callE {x : Operand} {xs : Array Operand} {ts : Array TypeId} {f : Nat} {caps ys : List AV} {v : Value} [hf : FnOk E.P f] (h : CallOkE E.P f ys (fun r' => r' = .v v)) (hx : ev tm x = .fn (.func f) [] caps) (ha : LeE bl (xs.toList.map (ev tm) ++ caps) ys) :
    QV E bl tm ⟨d, .call ⟨.value x, xs, ts⟩, ty, pos, af, gd⟩ (.v v) [] [] := by
  intro g w ρ bl' ow' hm hbl _ _ hop
  have h1 := hop x (by simp [Op.operands, Call.operands])
  have h2 : reps g w (xs.toList.map (ev tm)) (xs.toList.map ρ) := reps_map _ fun y hy => hop y (by simp [Op.operands, Call.operands] at hy ⊢; exact .inr hy)
  rw [hx] at h1
  simp only [rep, reps] at h1
  obtain ⟨a, b, h1, ha0, hcaps⟩ := h1
  have ha1 : a = #[] := by cases a; simp_all
  subst ha1
  obtain ⟨fn, f1, f2, f3⟩ := hf.ok
  have f2' : fn.name ≠ "runtime.NumGoroutine" := by simpa using f2
  have f3' : fn.body ≠ none := fun e => by rw [e] at f3; simp at f3
  have hrun : (execOp ρ ⟨d, .call ⟨.value x, xs, ts⟩, ty, pos, af, gd⟩).run E.P w = .ok (.enter f (xs.map ρ ++ b)) w := by
    simp [execOp, resolve, Deferred.ofValue, h1, invoke, callFunc, f1, f2', f3']
  rw [hrun]
  have hreps := reps_leE hm hbl ha (zs := (xs.map ρ ++ b).toList) (by
    rw [Array.toList_append, Array.toList_map]
    exact reps_append h2 hcaps)
  have hcell : ∀ b o, seen g w b o → (w.cell? ⟨b, o, none⟩).isSome = true := fun b o hb => by
    rcases hb with hb | hb
    · exact hm.cell b o hb
    · exact hb.2
  refine (h (seen g w) w (xs.map ρ ++ b) hcell hreps).mono fun e w' he => ?_
  obtain ⟨y, r', g', rfl, rfl, h3, h4⟩ := he
  simp only [rep] at h3
  subst h3
  have hr : Ret g.I w (g0 g.I) w' := ⟨h4.below, fun _ _ h => h, fun _ _ h => .inl h, fun b o hb => by
    rw [World.cell?_of_block (a := ⟨b, o, none⟩) (h4.below.block b (cell_lt (hm.cell b o hb)) (fun h => h))]; exact hm.cell b o hb, fun n b h => h.elim, fun n n' b h => h.elim⟩
  obtain ⟨gc, h5, h6, _, _⟩ := hm.called hr 0 [] (fun n hn => by simp at hn)
  exact ⟨_, rfl, gc, h5, by simpa using h6, by simp only [rep]⟩
end
end Go.Eng

namespace Go.Eng
open Go

def gM (b T : Nat) : Gh := ⟨fun _ _ => False, fun n => if n = 1000000 then some b else none, fun _ => none, fun _ => False, fun _ => T⟩
abbrev enM (P : Program) (B : Nat) (w0 : World) (nt b T : Nat) : En := ⟨P, B, w0, nt, fun c => c = b, [], fun _ _ => False, fun n c U => n = 1000000 ∧ c = b ∧ U = T, none, []⟩
/-- A value that reads so whatever the ghosts. -/
def plain : AV → Bool
  | .v _ => true
  | .top => true
  | _ => false
/-- What lies behind the slice: whole rows of plain values. -/
def MoreOk (e : Nat) (more : List (List AV)) : Prop := ∀ r ∈ more, r.length = e ∧ ∀ x ∈ r, plain x = true
/-- THE CONTRACT OF A FUNCTION THAT MARKS: the block of the slice 1000000 reads as 'rows' (and 'more' behind them), afterwards as 'rows''; nothing else that was there has changed. -/
def CallMark (P : Program) (f T e : Nat) (args : List AV) (rows rows' : List (List AV)) (r : Value) : Prop :=
  ∀ (w : World) (b : Nat) (vals arr : Array Value) (more : List (List AV)), MoreOk e more → w.heap[b]? = some (.cells arr T (0, 0)) → reps (gM b T) w (rows ++ more).flatten arr.toList → reps (gM b T) w args vals.toList →
    Calls P f vals w fun e' w' => e' = .returned r ∧ BelowM w.heap.size (fun c => c = b) w w' ∧ ∃ arr', w'.heap[b]? = some (.cells arr' T (0, 0)) ∧ ∃ g' : Gh, reps g' w' (rows' ++ more).flatten arr'.toList
/-- What it hands back, and its block. -/
def markQ (E : En) (rs : List ResultVar) (r : Value) (rows : List AV) : Exit → St → Prop
  | .normal, s => resA E.P s rs [.v r] ∧ (1000000, rows) ∈ s.bl
  | .ret, s => resA E.P s rs [.v r] ∧ (1000000, rows) ∈ s.bl
  | _, _ => False
theorem callMark {P : Program} {f nt T e : Nat} {fn : Func} {rs : Array ResultVar} {c : Code} {args : List AV} {tm : List (Nat × AV)} {rows rows' : List (List AV)} {r : Value} (hf : P.funcs[f]? = some fn) (hnt : fn.ntmps = nt) (hrs : fn.results = rs) (hb : fn.body = some c) (hn : Nat.ble args.length nt = true) (htm : iniO 0 args = some tm)
    (h : ∀ (B : Nat) (w0 : World) (b : Nat) (more : List (List AV)), MoreOk e more → W (enM P B w0 nt b T) c (markQ (enM P B w0 nt b T) rs.toList r (rows' ++ more).flatten) ⟨tm, [(1000000, (rows ++ more).flatten)], []⟩) : CallMark P f T e args rows rows' r := by
  subst hnt; subst hrs
  intro w b vals arr more hmore hh hreps hargs'
  have htm' := iniO_eq htm
  have hn' := Nat.le_of_ble_eq_true hn
  have hblt : b < w.heap.size := (Array.getElem?_eq_some_iff.1 hh).1
  let E : En := enM P w.heap.size w fn.ntmps b T
  let g : Gh := gM b T
  have hlen := reps_length hargs'
  have hgm : ∀ n c, g.m n = some c → n = 1000000 ∧ c = b := fun n c h => by
    by_cases e1 : n = 1000000
    · simp only [g, gM, e1, if_true, Option.some.injEq] at h; exact ⟨e1, h.symm⟩
    · simp only [g, gM, e1, if_false] at h; cases h
  refine calls_of_wp hf hb ?_
  refine wp_W (h w.heap.size w b more hmore g _ w ⟨⟨BelowM.refl _ _ _, Nat.le_refl _, fun _ _ h => h.elim, fun n c h => ?_, fun _ _ h => h.elim, fun n n' c h1 h2 => (hgm n c h1).1.trans (hgm n' c h2).1.symm, fun _ _ _ h => h.elim, fun _ _ _ _ h => h.elim,
    fun n cs h => ?_, fun n c h => ?_, fun _ h => h.elim, fun _ _ h => h.elim, fun _ _ h => h.elim, fun n c U h => ?_⟩, fun t => ?_, rfl, ?_⟩) fun e a' w' hq => ?_
  · obtain ⟨rfl, rfl⟩ := hgm n c h
    exact ⟨.inr (.inr rfl), hblt⟩
  · simp only [List.mem_singleton, Prod.mk.injEq] at h
    obtain ⟨rfl, rfl⟩ := h
    exact ⟨b, arr, by simp [g, gM], hh, hreps, fun _ h => h⟩
  · obtain ⟨rfl, rfl⟩ := hgm n c h
    exact ⟨_, List.mem_singleton.2 rfl⟩
  · obtain ⟨rfl, rfl, rfl⟩ := h
    exact ⟨by simp [g, gM], rfl⟩
  · rw [← htm']
    simp only [look_zip, Nat.zero_le, if_true, Nat.sub_zero]
    rcases Nat.lt_or_ge t args.length with h1 | h1
    · obtain ⟨y, hy, hr⟩ := reps_get hargs' (List.getElem?_eq_getElem h1)
      have : t < vals.size := by simpa [← hlen] using h1
      have hy' : vals[t] = y := by simpa [this] using hy
      simp only [List.getD_eq_getElem?_getD, List.getElem?_eq_getElem h1, Option.getD_some]
      simp only [Array.getD_eq_getD_getElem?, Array.getElem?_append_left this, Array.getElem?_eq_getElem this, Option.getD_some, hy']
      exact hr
    · simp only [List.getD_eq_getElem?_getD, List.getElem?_eq_none h1, Option.getD_none, rep]
  · have : vals.size = args.length := by simpa using hlen
    simp; omega
  · obtain ⟨g', s', hq, hi⟩ := hq
    have fin : resA P s' fn.results.toList [.v r] → (1000000, (rows' ++ more).flatten) ∈ s'.bl → a'.defers = [] ∧ ∃ v, (results fn a'.tmps).run P w' = .ok v w' ∧ (Ending.returned v = .returned r ∧ BelowM w.heap.size (fun c => c = b) w w' ∧ ∃ arr', w'.heap[b]? = some (.cells arr' T (0, 0)) ∧ ∃ g' : Gh, reps g' w' (rows' ++ more).flatten arr'.toList) := by
      intro h1 h2
      obtain ⟨y, k1, k2⟩ := run_results hi h1
      have hy : y = r := by simpa only [oneA, rep] using k2
      subst hy
      obtain ⟨c, arr', m1, m2, m3, _⟩ := hi.mem.blk _ _ h2
      obtain ⟨p1, p2⟩ := hi.mem.pin 1000000 b T ⟨rfl, rfl, rfl⟩
      have : c = b := by rw [p1] at m1; exact (Option.some.inj m1).symm
      subst this
      rw [p2] at m2
      exact ⟨hi.de, y, k1, rfl, hi.mem.below, arr', m2, g', m3⟩
    cases e with
    | normal => exact fin hq.1 hq.2
    | ret => exact fin hq.1 hq.2
    | _ => exact hq.elim

/-- A variable's block (or one that is pinned) has been written by a callee. -/
theorem Mem.marked {E : En} {g : Gh} {bl : List (Nat × List AV)} {ow : List Nat} {w w' : World} (h : Mem E g bl ow w) {n b : Nat} (hn : g.m n = some b) (hro : n ∉ E.ron) {cs : List AV} {arr : Array Value} (hB : BelowM w.heap.size (fun c => c = b) w w') (hh : w'.heap[b]? = some (.cells arr (g.mt n) (0, 0)))
    (hI : ∀ o, ¬ g.I b o) (hr : reps g w' cs arr.toList) : Goes g w g w' ∧ Mem E g (setB bl n cs) ow w' := by
  have other : ∀ k, k < w.heap.size → k ≠ b → w'.heap[k]? = w.heap[k]? := fun k h1 h2 => hB.block k h1 h2
  have keeps : Keeps g.I w w' := fun k o hk => World.cell?_of_block (a := ⟨k, o, none⟩) (other k (cell_lt (h.cell k o hk)) fun e => hI o (e ▸ hk))
  have goes : Goes g w g w' := ⟨fun _ _ h => h, keeps, fun _ _ h => h, fun _ _ _ => rfl, fun k T' e rows y hy =>
    ownRep_goes (g := g) (g' := g) (fun _ _ h => h) keeps (fun _ h => ⟨h, rfl⟩) (fun k c h1 h2 => other c (h.ofr k c h1 h2).2 fun e => h.disj n k b hn h1 (e ▸ h2)) (fun _ _ _ _ _ h => h) hy⟩
  refine ⟨goes, ?_⟩
  have hbB : E.B ≤ b ∨ E.M b := (h.mfr n b hn).1.resolve_left hro
  have hsz := hB.size
  refine { below := ⟨hB.os.trans h.below.os, hB.tape.trans h.below.tape, hB.output.trans h.below.output, Nat.le_trans h.below.size hsz, fun k hk hM => ?_⟩, base := Nat.le_trans h.base hsz, cell := fun c o hc => by rw [keeps c o hc]; exact h.cell c o hc,
           mfr := fun k c hk => ⟨(h.mfr k c hk).1, Nat.lt_of_lt_of_le (h.mfr k c hk).2 hsz⟩, ofr := fun k c h1 h2 => ⟨(h.ofr k c h1 h2).1, Nat.lt_of_lt_of_le (h.ofr k c h1 h2).2 hsz⟩, minj := h.minj, oinj := h.oinj, disj := h.disj, blk := ?_, key := fun k c hk => ?_, own := h.own, inew := h.inew, iold := h.iold, pin := h.pin }
  · rw [other k (Nat.lt_of_lt_of_le hk h.base) fun e => by subst e; rcases hbB with h1 | h1 <;> first | omega | exact hM h1]
    exact h.below.block k hk hM
  · intro k ds hk
    simp only [setB, List.mem_map] at hk
    obtain ⟨⟨k', ds'⟩, hp, he⟩ := hk
    obtain ⟨c, arr', h1, h2, h3, h4⟩ := h.blk k' ds' hp
    cases hb : Nat.beq k' n
    · simp only [hb, cond_false, Prod.mk.injEq] at he
      obtain ⟨rfl, rfl⟩ := he
      have hne : c ≠ b := fun e => by
        subst e
        have := h.minj k' n c h1 hn
        rw [this] at hb; simp at hb
      exact ⟨c, arr', h1, (other c (h.mfr _ _ h1).2 hne).trans h2, reps_goes goes h3, h4⟩
    · simp only [hb, cond_true, Prod.mk.injEq] at he
      obtain ⟨rfl, rfl⟩ := he
      have e := Nat.eq_of_beq_eq_true hb
      rw [e] at h1 ⊢
      have : c = b := by rw [hn] at h1; exact (Option.some.inj h1).symm
      subst this
      exact ⟨c, arr, hn, hh, hr, h4⟩
  · obtain ⟨ds, hd⟩ := h.key k c hk
    cases hb : Nat.beq k n
    · exact ⟨ds, List.mem_map.2 ⟨_, hd, by simp only [hb, cond_false]⟩⟩
    · exact ⟨cs, List.mem_map.2 ⟨_, hd, by simp only [hb, cond_true]⟩⟩
theorem reps_plain {g g' : Gh} {w w' : World} : ∀ {xs : List AV} {ys : List Value}, (∀ x ∈ xs, plain x = true) → reps g w xs ys → reps g' w' xs ys
  | [], ys, _, h => by simpa only [reps] using h
  | x :: xs, ys, hp, h => by
    simp only [reps] at h ⊢
    obtain ⟨y, zs, e, h1, h2⟩ := h
    refine ⟨y, zs, e, ?_, reps_plain (fun z hz => hp z (by simp [hz])) h2⟩
    have := hp x (by simp)
    cases x <;> simp_all [plain, rep]
theorem refs_plain {ks os : List Nat} : ∀ {xs : List AV}, (∀ x ∈ xs, plain x = true) → refsL ks os xs = true
  | [], _ => rfl
  | x :: xs, h => by
    simp only [refsL, Bool.and_eq_true]
    refine ⟨?_, refs_plain fun y hy => h y (by simp [hy])⟩
    have := h x (by simp)
    cases x <;> simp_all [plain, refs]
/-- What is handed to a function that marks: the slice, by its pinned name. -/
inductive MkA : AV → AV → Prop where
  | v {x : Value} : MkA (.v x) (.v x)
  | arr {T e l : Nat} : MkA (.arr 1000000 T e l) (.arr 1000000 T e l)
inductive MkAs : List AV → List AV → Prop where
  | nil : MkAs [] []
  | cons {x y : AV} {xs ys : List AV} (h : MkA x y) (hs : MkAs xs ys) : MkAs (x :: xs) (y :: ys)
  | agg {cs ds xs ys : List AV} (h : MkAs cs ds) (hs : MkAs xs ys) : MkAs (.agg cs :: xs) (.agg ds :: ys)
theorem reps_mkA {g : Gh} {w : World} {b T : Nat} (hm : g.m 1000000 = some b) (ht : g.mt 1000000 = T) {xs ys : List AV} (h : MkAs xs ys) : ∀ {zs : List Value}, reps g w xs zs → reps (gM b T) w ys zs := by
  induction h with
  | nil => intro zs h; simpa only [reps] using h
  | cons hx _ ih =>
    intro zs h
    simp only [reps] at h ⊢
    obtain ⟨y, zs', e, h1, h2⟩ := h
    refine ⟨y, zs', e, ?_, ih h2⟩
    cases hx with
    | v => simpa only [rep] using h1
    | arr =>
      simp only [rep] at h1 ⊢
      obtain ⟨c, k, k1, k2, k3⟩ := h1
      rw [hm] at k1
      cases k1
      exact ⟨b, k, by simp [gM], by rw [← k2, ht]; rfl, k3⟩
  | agg _ _ ih1 ih2 =>
    intro zs h
    simp only [reps, rep] at h ⊢
    obtain ⟨y, zs', e, ⟨a, ea, h1⟩, h2⟩ := h
    exact ⟨y, zs', e, ⟨a, ea, ih1 h1⟩, ih2 h2⟩

section
variable {E : En} {ops : Array Oper} {rest : List Oper} {Q : Exit → St → Prop} {tm : List (Nat × AV)} {bl bl' : List (Nat × List AV)} {ow : List Nat} {d : Nat} {ty : TypeId} {pos : String} {af : Array Edge}
/-- A call that marks the slice that this call itself was given to mark. -/
theorem wlm {x : Operand} {xs : Array Operand} {ts : Array TypeId} {f T e b : Nat} {args : List AV} {rows rows' more : List (List AV)} {r : Value} [hf : FnOk E.P f] (h : CallMark E.P f T e args rows rows' r) (hpin : E.pin 1000000 b T) (hmore : MoreOk e more) (hx : ev tm x = .v (.func (.func f) #[] #[])) (ha : MkAs (xs.toList.map (ev tm)) args)
    (hb : lookB bl 1000000 = some (rows ++ more).flatten) (hp : ∀ x ∈ rows.flatten, plain x = true) (hp' : ∀ x ∈ rows'.flatten, plain x = true) (hs : setBO bl 1000000 (rows' ++ more).flatten = some bl') (hro : 1000000 ∉ E.ron) (hd : Nat.blt d E.nt = true)
    (hk : WL E ops rest Q ⟨(d, .v r) :: tm, bl', ow⟩) : WL E ops (⟨some d, .call ⟨.value x, xs, ts⟩, ty, pos, af, none⟩ :: rest) Q ⟨tm, bl, ow⟩ := by
  intro g a w hi
  unfold wpListIn
  rw [show Region.wanted ⟨some d, .call ⟨.value x, xs, ts⟩, ty, pos, af, none⟩ (yielded ops a.tmps) = true by simp [Region.wanted]]
  refine wpIn_of_wp (fun _ h => by cases h) ?_
  have h1 := rep_ev hi.tm x
  have h2 : reps g w (xs.toList.map (ev tm)) (xs.toList.map a.eval) := reps_map _ fun y _ => rep_ev hi.tm y
  rw [hx] at h1
  simp only [rep] at h1
  obtain ⟨fn, f1, f2, f3⟩ := hf.ok
  have f2' : fn.name ≠ "runtime.NumGoroutine" := by simpa using f2
  have f3' : fn.body ≠ none := fun e => by rw [e] at f3; simp at f3
  have hrun : (execOp a.eval ⟨some d, .call ⟨.value x, xs, ts⟩, ty, pos, af, none⟩).run E.P w = .ok (.enter f (xs.map a.eval)) w := by
    simp [execOp, resolve, Deferred.ofValue, h1, invoke, callFunc, f1, f2', f3']
  unfold Oper.wp
  rw [hrun]
  obtain ⟨p1, p2⟩ := hi.mem.pin _ _ _ hpin
  obtain ⟨c, arr, m1, m2, m3, m4⟩ := hi.mem.blk _ _ (lookB_mem hb)
  have : c = b := by rw [p1] at m1; exact (Option.some.inj m1).symm
  subst this
  rw [p2] at m2
  have pm : ∀ rs : List (List AV), (∀ x ∈ rs.flatten, plain x = true) → ∀ x ∈ (rs ++ more).flatten, plain x = true := fun rs hr x hx => by
    rw [List.flatten_append, List.mem_append] at hx
    rcases hx with hx | hx
    · exact hr x hx
    · obtain ⟨l, hl, hx⟩ := List.mem_flatten.1 hx
      exact (hmore l hl).2 x hx
  have hc := h w c (xs.map a.eval) arr more hmore m2 (reps_plain (pm rows hp) m3) (by rw [Array.toList_map]; exact reps_mkA p1 p2 ha h2)
  refine hc.mono fun e' w' he => ?_
  obtain ⟨rfl, hB, arr', n1, g', n2⟩ := he
  obtain ⟨k1, k2⟩ := hi.mem.marked p1 hro hB (by rw [p2]; exact n1) m4 (reps_plain (g' := g) (w' := w') (pm rows' hp') n2)
  rw [setBO_eq hs] at k2
  have hi' : Inv E g ⟨tm, bl', ow⟩ a w' := ⟨k2, fun t => rep_goes k1 (hi.tm t), hi.de, hi.sz⟩
  have := hi'.app (d := some d) (v := .v r) (y := r) (nb := []) (no := []) (fun k hk => by cases hk; exact Nat.le_of_ble_eq_true hd) (Goes.refl _ _) (by simpa using k2) (by simp only [rep])
  exact hk g _ w' this
end
end Go.Eng

namespace Go.Eng
open Go

theorem dreps_take {g : Gh} {I : Nat → Nat → Prop} {w w' : World} : ∀ {xs zs : List AV} {ys : List Value}, (∀ x ∈ xs, plain x = true) → reps g w (xs ++ zs) ys → dreps I w' xs (ys.take xs.length)
  | [], zs, ys, _, _ => by simp [dreps]
  | x :: xs, zs, ys, hp, h => by
    simp only [List.cons_append, reps] at h
    obtain ⟨y, ys', rfl, h1, h2⟩ := h
    simp only [List.length_cons, List.take_succ_cons, dreps]
    refine ⟨y, _, rfl, ?_, dreps_take (fun z hz => hp z (by simp [hz])) h2⟩
    have := hp x (by simp)
    cases x <;> simp_all [plain, rep, drep]
theorem dreps_plain {I I' : Nat → Nat → Prop} {w w' : World} : ∀ {xs : List AV} {ys : List Value}, (∀ x ∈ xs, plain x = true) → dreps I w xs ys → dreps I' w' xs ys
  | [], ys, _, h => by simpa only [dreps] using h
  | x :: xs, ys, hp, h => by
    simp only [dreps] at h ⊢
    obtain ⟨y, zs, e, h1, h2⟩ := h
    refine ⟨y, zs, e, ?_, dreps_plain (fun z hz => hp z (by simp [hz])) h2⟩
    have := hp x (by simp)
    cases x <;> simp_all [plain, drep]
section
variable {E : En} {ops : Array Oper} {rest : List Oper} {Q : Exit → St → Prop} {tm tm' : List (Nat × AV)} {bl bl' : List (Nat × List AV)} {ow : List Nat} {d : Nat} {ty : TypeId} {pos : String} {af : Array Edge}
end
end Go.Eng

namespace Go.Eng
open Go

/- Behind an append the old slice of that name is seen as data alone. -/
mutual
def kill (n : Nat) : AV → AV
  | .agg cs => .agg (killL n cs)
  | .tup cs => .tup (killL n cs)
  | .own k T e rows => bif Nat.beq k n then .sl e rows else .own k T e rows
  | .fn f fs cs => .fn f (killL n fs) (killL n cs)
  | .top => .top
  | .v x => .v x
  | .sl e rows => .sl e rows
  | .ptr k o => .ptr k o
  | .eptr cs => .eptr cs
  | .arr k T e l => .arr k T e l
def killL (n : Nat) : List AV → List AV
  | [] => []
  | x :: xs => kill n x :: killL n xs
end
mutual
def killO (n : Nat) : AV → Option AV
  | .agg cs => match killOL n cs with | some r => some (.agg r) | none => none
  | .tup cs => match killOL n cs with | some r => some (.tup r) | none => none
  | .own k T e rows => bif Nat.beq k n then some (.sl e rows) else some (.own k T e rows)
  | .fn f fs cs => match killOL n fs with
    | none => none
    | some a => match killOL n cs with | some b => some (.fn f a b) | none => none
  | .top => some .top
  | .v x => some (.v x)
  | .sl e rows => some (.sl e rows)
  | .ptr k o => some (.ptr k o)
  | .eptr cs => some (.eptr cs)
  | .arr k T e l => some (.arr k T e l)
def killOL (n : Nat) : List AV → Option (List AV)
  | [] => some []
  | x :: xs => match killO n x with
    | none => none
    | some y => match killOL n xs with | some r => some (y :: r) | none => none
end
mutual
theorem killO_eq {n : Nat} : ∀ (x : AV), killO n x = some (kill n x)
  | .agg cs => by simp only [killO, killOL_eq cs, kill]
  | .tup cs => by simp only [killO, killOL_eq cs, kill]
  | .own k T e rows => by simp only [killO, kill]; cases Nat.beq k n <;> rfl
  | .fn f a b => by simp only [killO, killOL_eq a, killOL_eq b, kill]
  | .top => by simp only [killO, kill]
  | .v x => by simp only [killO, kill]
  | .sl e rows => by simp only [killO, kill]
  | .ptr k o => by simp only [killO, kill]
  | .eptr cs => by simp only [killO, kill]
  | .arr k T e l => by simp only [killO, kill]
theorem killOL_eq {n : Nat} : ∀ (xs : List AV), killOL n xs = some (killL n xs)
  | [] => by simp only [killOL, killL]
  | x :: xs => by simp only [killOL, killO_eq x, killOL_eq xs, killL]
end
def killT (n : Nat) : List (Nat × AV) → List (Nat × AV)
  | [] => []
  | (k, x) :: r => (k, kill n x) :: killT n r
def killTO (n : Nat) : List (Nat × AV) → Option (List (Nat × AV))
  | [] => some []
  | (k, x) :: r => match killO n x with
    | none => none
    | some y => match killTO n r with | some s => some ((k, y) :: s) | none => none
theorem killTO_eq {n : Nat} : ∀ (l : List (Nat × AV)), killTO n l = some (killT n l)
  | [] => rfl
  | (k, x) :: r => by simp only [killTO, killO_eq x, killTO_eq r, killT]
def killB (n : Nat) : List (Nat × List AV) → List (Nat × List AV)
  | [] => []
  | (k, x) :: r => (k, killL n x) :: killB n r
def killBO (n : Nat) : List (Nat × List AV) → Option (List (Nat × List AV))
  | [] => some []
  | (k, x) :: r => match killOL n x with
    | none => none
    | some y => match killBO n r with | some s => some ((k, y) :: s) | none => none
theorem killBO_eq {n : Nat} : ∀ (l : List (Nat × List AV)), killBO n l = some (killB n l)
  | [] => rfl
  | (k, x) :: r => by simp only [killBO, killOL_eq x, killBO_eq r, killB]
theorem look_killT {n t : Nat} : ∀ (l : List (Nat × AV)), look (killT n l) t = kill n (look l t)
  | [] => by simp [killT, look, kill]
  | (k, x) :: r => by
    simp only [killT, look]
    cases Nat.beq k t
    · exact look_killT r
    · rfl
theorem mem_killB {n k : Nat} {ds : List AV} : ∀ {l : List (Nat × List AV)}, (k, ds) ∈ killB n l → ∃ cs, (k, cs) ∈ l ∧ ds = killL n cs
  | [], h => by simp [killB] at h
  | (j, x) :: r, h => by
    simp only [killB, List.mem_cons, Prod.mk.injEq] at h
    rcases h with ⟨rfl, rfl⟩ | h
    · exact ⟨x, by simp, rfl⟩
    · obtain ⟨cs, h1, h2⟩ := mem_killB h
      exact ⟨cs, by simp [h1], h2⟩
theorem mem_killB' {n k : Nat} {cs : List AV} : ∀ {l : List (Nat × List AV)}, (k, cs) ∈ l → (k, killL n cs) ∈ killB n l
  | [], h => by simp at h
  | (j, x) :: r, h => by
    simp only [killB, List.mem_cons, Prod.mk.injEq] at h ⊢
    rcases h with ⟨rfl, rfl⟩ | h
    · exact .inl ⟨rfl, rfl⟩
    · exact .inr (mem_killB' h)

section
variable {g g' : Gh} {w w' : World} {n : Nat}
mutual
theorem rep_kill (hI : ∀ b o, g.I b o → g'.I b o) (hk : Keeps g.I w w') (hm : ∀ k b, g.m k = some b → g'.m k = some b) (ht : g'.mt = g.mt)
    (ho : ∀ k T e rows y, k ≠ n → ownRep g w k T e rows y → ownRep g' w' k T e rows y) : ∀ {x : AV} {y : Value}, rep g w x y → rep g' w' (kill n x) y
  | .top, _, _ => by simp [kill, rep]
  | .v x, y, h => by simpa [kill, rep] using h
  | .agg cs, y, h => by
    simp only [rep, kill] at h ⊢
    obtain ⟨a, e, h⟩ := h
    exact ⟨a, e, reps_kill hI hk hm ht ho h⟩
  | .tup cs, y, h => by
    simp only [rep, kill] at h ⊢
    obtain ⟨a, e, h⟩ := h
    exact ⟨a, e, reps_kill hI hk hm ht ho h⟩
  | .sl e rows, y, h => by
    simp only [rep, kill] at h ⊢
    exact drep_mono hI hk h
  | .own k T e rows, y, h => by
    simp only [kill]
    cases hb : Nat.beq k n
    · simp only [cond_false, rep] at h ⊢
      exact ho k T e rows y (fun e => by subst e; simp at hb) h
    · simp only [cond_true, rep] at h ⊢
      exact drep_mono hI hk (drep_of_own h)
  | .ptr k off, y, h => by
    simp only [rep, kill] at h ⊢
    obtain ⟨b, h1, h2⟩ := h
    exact ⟨b, hm _ _ h1, h2⟩
  | .eptr cs, y, h => by
    simp only [rep, kill] at h ⊢
    obtain ⟨b, o, h1, h2⟩ := h
    exact ⟨b, o, h1, dcells_mono hI hk h2⟩
  | .fn f fs cs, y, h => by
    simp only [rep, kill] at h ⊢
    obtain ⟨a, b, h1, h2, h3⟩ := h
    exact ⟨a, b, h1, reps_kill hI hk hm ht ho h2, reps_kill hI hk hm ht ho h3⟩
  | .arr k T e len, y, h => by
    simp only [rep, kill] at h ⊢
    obtain ⟨b, c, h1, h2, h3⟩ := h
    exact ⟨b, c, hm _ _ h1, by rw [ht]; exact h2, h3⟩
theorem reps_kill (hI : ∀ b o, g.I b o → g'.I b o) (hk : Keeps g.I w w') (hm : ∀ k b, g.m k = some b → g'.m k = some b) (ht : g'.mt = g.mt)
    (ho : ∀ k T e rows y, k ≠ n → ownRep g w k T e rows y → ownRep g' w' k T e rows y) : ∀ {xs : List AV} {ys : List Value}, reps g w xs ys → reps g' w' (killL n xs) ys
  | [], ys, h => by simpa [killL, reps] using h
  | x :: xs, ys, h => by
    simp only [reps, killL] at h ⊢
    obtain ⟨y, zs, e, h1, h2⟩ := h
    exact ⟨y, zs, e, rep_kill hI hk hm ht ho h1, reps_kill hI hk hm ht ho h2⟩
end
end

/-- A slice of the call's own has grown, in place or into a new block. -/
theorem Mem.grown {E : En} {g : Gh} {bl : List (Nat × List AV)} {ow : List Nat} {w w' : World} (h : Mem E g bl ow w) {n T e : Nat} {rows rows' : List (List AV)} {y y' : Value} (hy : ownRep g w n T e rows y) {xs' : List Value}
    (h1 : w'.os = w.os) (h2 : w'.tape = w.tape) (h3 : w'.output = w.output) (h4 : w.heap.size ≤ w'.heap.size) (hblk : ∀ k, k < w.heap.size → g.om n ≠ some k → w'.heap[k]? = w.heap[k]?)
    (hkeep : ∀ b o, g.om n = some b → o < rows.length * e → w'.cell? ⟨b, o, none⟩ = w.cell? ⟨b, o, none⟩) (hnew : ∀ b, y'.ownBlock = some b → g.om n = some b ∨ w.heap.size ≤ b)
    (hr : w'.ownsRow 0 T e y' rows'.length xs') (hd : dreps g.I w rows'.flatten xs') (hl : ∀ r ∈ rows', r.length = e) (hlen : rows.length ≤ rows'.length) :
    ∃ g', (∀ x v, rep g w x v → rep g' w' (kill n x) v) ∧ Mem E g' (killB n bl) ow w' ∧ ownRep g' w' n T e rows' y' := by
  obtain ⟨hw, hob, xs, hown, hdr, hl0, hIn⟩ := hy
  let g' : Gh := { g with I := fun b o => g.I b o ∨ (y'.ownBlock = some b ∧ o < rows'.length * e), om := fun k => if k = n then y'.ownBlock else g.om k }
  have hIlt : ∀ b o, g.I b o → b < w.heap.size := fun b o hb => cell_lt (h.cell b o hb)
  have hmul : rows.length * e ≤ rows'.length * e := Nat.mul_le_mul_right _ hlen
  have keeps : Keeps g.I w w' := fun b o hb => by
    by_cases hn : g.om n = some b
    · refine hkeep b o hn ?_
      rcases Nat.lt_or_ge o (rows.length * e) with h5 | h5
      · exact h5
      · exact ((hIn b hn).2 o h5 hb).elim
    · exact World.cell?_of_block (a := ⟨b, o, none⟩) (hblk b (hIlt b o hb) hn)
  have hI : ∀ b o, g.I b o → g'.I b o := fun b o hb => .inl hb
  have hob' : ∀ k b, g.ow k → g'.om k = some b → (k = n ∧ y'.ownBlock = some b) ∨ (k ≠ n ∧ g.om k = some b) := fun k b _ h5 => by
    by_cases hk : k = n
    · simp only [g', hk, if_true] at h5; exact .inl ⟨hk, h5⟩
    · simp only [g', hk, if_false] at h5; exact .inr ⟨hk, h5⟩
  have ho : ∀ k T e rows y, k ≠ n → ownRep g w k T e rows y → ownRep g' w' k T e rows y := fun k T0 e0 rows0 y0 hk hy0 => by
    obtain ⟨q1, q2, ys, q3, q4, q5, q6⟩ := hy0
    have hom : g'.om k = g.om k := by simp only [g', hk, if_false]
    refine ⟨q1, by rw [hom]; exact q2, ys, ownsRow_of_heap q3 fun b hb => hblk b (ownsRow_lt q3 hb) fun h5 => hk (h.oinj k n b q1 hw (by rw [← q2]; exact hb) h5), dreps_mono hI keeps q4, q5, fun b hb => ?_⟩
    rw [hom] at hb
    refine ⟨fun o h5 => .inl ((q6 b hb).1 o h5), fun o h5 h6 => ?_⟩
    rcases h6 with h6 | ⟨h6, _⟩
    · exact (q6 b hb).2 o h5 h6
    · rcases hnew b h6 with h7 | h7
      · exact hk (h.oinj k n b q1 hw hb h7)
      · have := (h.ofr k b q1 hb).2; omega
  have hrep : ∀ x v, rep g w x v → rep g' w' (kill n x) v := fun x v hx => rep_kill hI keeps (fun _ _ h => h) rfl ho hx
  refine ⟨g', hrep, ?_, hw, by simp only [g', if_true], xs', hr, dreps_mono hI keeps hd, hl, fun b hb => ?_⟩
  · refine { below := ⟨h1.trans h.below.os, h2.trans h.below.tape, h3.trans h.below.output, Nat.le_trans h.below.size h4, fun k hk hM => (hblk k (Nat.lt_of_lt_of_le hk h.base) fun h5 => ?_).trans (h.below.block k hk hM)⟩,
             base := Nat.le_trans h.base h4, cell := fun b o hb => ?_, mfr := fun k b hk => ⟨(h.mfr k b hk).1, Nat.lt_of_lt_of_le (h.mfr k b hk).2 h4⟩, ofr := fun k b k1 k2 => ?_, minj := h.minj, oinj := fun k k' b k1 k1' k2 k2' => ?_, disj := fun k k' b k1 k2 k3 => ?_,
             blk := fun k ds hk => ?_, key := fun k b hk => ?_, own := h.own, inew := fun b o hb => ?_, iold := fun b o hb => .inl (h.iold b o hb), pin := h.pin }
    · exact (h.ofr n k hw h5).1.elim (fun h => by omega) hM
    · rcases hb with hb | ⟨hb, ho⟩
      · rw [keeps b o hb]; exact h.cell b o hb
      · rcases hr.2 with ⟨rfl, _⟩ | ⟨b', cap, cur, rfl, _, q1, q2, q3, q4, q5⟩
        · simp [Value.ownBlock] at hb
        · simp only [Value.ownBlock, Option.some.injEq] at hb
          subst hb
          rw [cell_of_heap q1]
          have : rows'.length * e ≤ cap * e := Nat.mul_le_mul_right _ q2
          rw [Array.getElem?_eq_getElem (by omega)]; rfl
    · rcases hob' k b k1 k2 with ⟨rfl, k3⟩ | ⟨_, k3⟩
      · refine ⟨?_, ownsRow_lt hr k3⟩
        rcases hnew b k3 with k4 | k4
        · exact (h.ofr k b k1 k4).1
        · exact .inl (Nat.le_trans h.base k4)
      · exact ⟨(h.ofr k b k1 k3).1, Nat.lt_of_lt_of_le (h.ofr k b k1 k3).2 h4⟩
    · rcases hob' k b k1 k2 with ⟨rfl, k3⟩ | ⟨hk, k3⟩ <;> rcases hob' k' b k1' k2' with ⟨rfl, k4⟩ | ⟨hk', k4⟩
      · rfl
      · rcases hnew b k3 with k5 | k5
        · exact h.oinj _ _ b k1 k1' k5 k4
        · have := (h.ofr k' b k1' k4).2; omega
      · rcases hnew b k4 with k5 | k5
        · exact h.oinj _ _ b k1 k1' k3 k5
        · have := (h.ofr k b k1 k3).2; omega
      · exact h.oinj _ _ b k1 k1' k3 k4
    · rcases hob' k' b k2 k3 with ⟨rfl, k4⟩ | ⟨_, k4⟩
      · rcases hnew b k4 with k5 | k5
        · exact h.disj k _ b k1 k2 k5
        · have := (h.mfr k b k1).2; omega
      · exact h.disj k k' b k1 k2 k4
    · obtain ⟨cs, k1, rfl⟩ := mem_killB hk
      obtain ⟨b, arr, q1, q2, q3, q4⟩ := h.blk k cs k1
      refine ⟨b, arr, q1, (hblk b (h.mfr k b q1).2 fun h5 => h.disj k n b q1 hw h5).trans q2, reps_kill hI keeps (fun _ _ h => h) rfl ho q3, fun o h5 => ?_⟩
      rcases h5 with h5 | ⟨h5, _⟩
      · exact q4 o h5
      · rcases hnew b h5 with h6 | h6
        · exact h.disj k n b q1 hw h6
        · have := (h.mfr k b q1).2; omega
    · obtain ⟨cs, k1⟩ := h.key k b hk
      exact ⟨_, mem_killB' k1⟩
    · rcases hb with hb | ⟨hb, _⟩
      · exact h.inew b o hb
      · rcases hnew b hb with h5 | h5
        · exact .inr (h.ofr n b hw h5).1
        · exact .inr (.inl (Nat.le_trans h.base h5))
  · simp only [g', if_true] at hb
    refine ⟨fun o h5 => .inr ⟨hb, h5⟩, fun o h5 h6 => ?_⟩
    rcases h6 with h6 | ⟨_, h6⟩
    · rcases hnew b hb with h7 | h7
      · exact (hIn b h7).2 o (by omega) h6
      · have := hIlt b o h6; omega
    · omega

/-- A slice that is nil is a slice of the call's own. -/
theorem Mem.nilOwn {E : En} {g : Gh} {bl : List (Nat × List AV)} {ow : List Nat} {w : World} (h : Mem E g bl ow w) (n T e : Nat) (hn : n ∉ ow) : ∃ g', Goes g w g' w ∧ Mem E g' bl (n :: ow) w ∧ ownRep g' w n T e [] (.slice none 0 0) := by
  have hno : ¬ g.ow n := fun hw => hn (h.own n hw)
  let g' : Gh := { g with ow := fun k => k = n ∨ g.ow k, om := fun k => if k = n then none else g.om k }
  have hob : ∀ k b, g'.ow k → g'.om k = some b → g.ow k ∧ g.om k = some b := fun k b h1 h2 => by
    by_cases hk : k = n
    · simp only [g', hk, if_true] at h2; cases h2
    · simp only [g', hk, if_false, false_or] at h1 h2; exact ⟨h1, h2⟩
  have how : ∀ k, g.ow k → g'.ow k ∧ g'.om k = g.om k := fun k hk => ⟨.inr hk, by
    have : k ≠ n := fun e => hno (e ▸ hk)
    simp only [g', this, if_false]⟩
  have goes : Goes g w g' w := ⟨fun _ _ h => h, fun _ _ _ => rfl, fun _ _ h => h, fun _ _ _ => rfl, fun k T0 e0 rows y hy => ownRep_goes (g := g) (g' := g') (fun _ _ h => h) (fun _ _ _ => rfl) how (fun _ _ _ _ => rfl) (fun _ _ _ _ _ h => h) hy⟩
  refine ⟨g', goes, ⟨h.below, h.base, h.cell, h.mfr, fun k b k1 k2 => h.ofr k b (hob k b k1 k2).1 (hob k b k1 k2).2, h.minj, fun k k' b k1 k1' k2 k2' => h.oinj k k' b (hob k b k1 k2).1 (hob k' b k1' k2').1 (hob k b k1 k2).2 (hob k' b k1' k2').2,
    fun k k' b k1 k2 k3 => h.disj k k' b k1 (hob k' b k2 k3).1 (hob k' b k2 k3).2, fun k cs hk => ?_, h.key, fun k hk => ?_, h.inew, h.iold, h.pin⟩, .inl rfl, by simp only [g', if_true]; rfl, [], ⟨by simp, .inl ⟨rfl, rfl⟩⟩, by simp [dreps], by simp, fun b hb => by simp only [g', if_true] at hb; cases hb⟩
  · obtain ⟨b, arr, q1, q2, q3, q4⟩ := h.blk k cs hk
    exact ⟨b, arr, q1, q2, reps_goes goes q3, q4⟩
  · rcases hk with rfl | hk
    · simp
    · exact List.mem_cons_of_mem _ (h.own k hk)

theorem drows_flat {I : Nat → Nat → Prop} {w : World} {rows : List (List AV)} {e b o : Nat} (h : drows I w e b o rows) : ∃ zs, dreps I w rows.flatten zs ∧ zs.length = rows.length * e ∧ ∀ j z, zs[j]? = some z → w.cell? ⟨b, o + j, none⟩ = some z := by
  obtain ⟨h1, h2⟩ := drows_iff.1 h
  obtain ⟨zs, g1, g2, g3⟩ := dcells_list h2
  exact ⟨zs, g1, by rw [g2, flatten_length h1], fun j z hz => (g3 j z hz).1⟩
theorem cells_one {g : Gh} {w : World} : ∀ {xs : List AV} {ys : List Value}, dreps g.I w xs ys → (∀ x ∈ xs, isCell x = true) → ∀ u ∈ ys, u.oneCell' = true
  | [], ys, h, _, u, hu => by simp only [dreps] at h; subst h; simp at hu
  | x :: xs, ys, h, hc, u, hu => by
    simp only [dreps] at h
    obtain ⟨z, zs, rfl, k1, k2⟩ := h
    rcases List.mem_cons.1 hu with rfl | hu
    · exact oneCell_of (rep_of_drep k1) (hc x (by simp))
    · exact cells_one k2 (fun x hx => hc x (by simp [hx])) u hu

/-- What append does to a slice of the call's own. -/
theorem append_own {E : En} {g : Gh} {bl : List (Nat × List AV)} {ow : List Nat} {w : World} (hm : Mem E g bl ow w) {t n T e by_ ty : Nat} [hs : SlOk E.P t T e by_] {rows rows2 : List (List AV)} {y u : Value} (hy : ownRep g w n T e rows y) (hu : drep g.I w (.sl e rows2) u)
    (hcell : ∀ x ∈ rows2.flatten, isCell x = true) (hl2 : ∀ r ∈ rows2, r.length = e) (hl : rows.length + rows2.length ≤ 1048576) (hb : Nat.ble by_ 134217728 = true) :
    ∃ y' w' g', (Builtin.append_ #[t, t] ty #[y, u]).run E.P w = .ok y' w' ∧ (∀ x v, rep g w x v → rep g' w' (kill n x) v) ∧ Mem E g' (killB n bl) ow w' ∧ ownRep g' w' n T e (rows ++ rows2) y' := by
  obtain ⟨in0, iz, i1, i2, i3, i4, i5⟩ := hs.info
  have hb := Nat.le_of_ble_eq_true hb
  have hbytes : (rows.length + rows2.length) * by_ ≤ 140737488355328 := Nat.le_trans (Nat.mul_le_mul hl hb) (by decide)
  have hmax : rows.length + rows2.length ≤ maxLen := by unfold maxLen; omega
  have hy0 := hy
  obtain ⟨hw, hob, xs, hown, hdr, hl0, hIn⟩ := hy
  have hlr : ∀ r ∈ rows ++ rows2, r.length = e := fun r hr => by
    rcases List.mem_append.1 hr with hr | hr
    · exact hl0 r hr
    · exact hl2 r hr
  simp only [drep] at hu
  obtain ⟨A, c, rfl, hA, hc⟩ := hu
  by_cases hz : rows2 = []
  · subst hz
    have hrun : (Builtin.append_ #[t, t] ty #[y, .slice A 0 c]).run E.P w = .ok y w := by
      rcases hown.2 with ⟨rfl, _⟩ | ⟨g0, cap, cur, rfl, _, _, hnc, _⟩
      · simp [Builtin.append_, run_underlying hs.und, sizeOf, typeInfo, i1, Builtin.lenOf, Builtin.firstCells]
        try (cases A <;> simp [loadCells, loadCellsFrom])
      · simp [Builtin.append_, run_underlying hs.und, sizeOf, typeInfo, i1, Builtin.lenOf, Builtin.firstCells, hnc]
        try (cases A <;> simp [loadCells, loadCellsFrom, storeCells])
    obtain ⟨g', k1, k2, k3⟩ := hm.grown (rows' := rows) (y' := y) (w' := w) hy0 rfl rfl rfl (Nat.le_refl _) (fun _ _ _ => rfl) (fun _ _ _ _ => rfl) (fun b hb => .inl (by rw [← hob]; exact hb)) hown hdr hl0 (Nat.le_refl _)
    exact ⟨y, w, g', hrun, k1, k2, by rw [List.append_nil]; exact k3⟩
  · obtain ⟨b2, o2, rfl, hrows⟩ := hA.resolve_left hz
    obtain ⟨news, n1, n2, n3⟩ := drows_flat hrows
    have hnews : ∀ j z, news[j]? = some z → w.cell? ((⟨b2, o2, none⟩ : Addr).add j) = some z := fun j z hj => by rw [addr_add]; exact n3 j z hj
    have hone := cells_one n1 hcell
    have hd' : dreps g.I w (rows ++ rows2).flatten (xs ++ news) := by rw [List.flatten_append]; exact dreps_append hdr n1
    have hlen : (rows ++ rows2).length = rows.length + rows2.length := List.length_append
    have grows : (∃ v' w', (Builtin.append_ #[t, t] ty #[y, .slice (some ⟨b2, o2, none⟩) rows2.length c]).run E.P w = .ok v' w' ∧ w'.ownsRow w.heap.size T e v' (rows.length + rows2.length) (xs ++ news) ∧ w.grownBy w' none) →
        ∃ y' w' g', (Builtin.append_ #[t, t] ty #[y, .slice (some ⟨b2, o2, none⟩) rows2.length c]).run E.P w = .ok y' w' ∧ (∀ x v, rep g w x v → rep g' w' (kill n x) v) ∧ Mem E g' (killB n bl) ow w' ∧ ownRep g' w' n T e (rows ++ rows2) y' := by
      rintro ⟨v', w', r1, r2, r3⟩
      obtain ⟨g', k1, k2, k3⟩ := hm.grown (rows' := rows ++ rows2) (y' := v') (w' := w') hy0 r3.os r3.tape r3.output r3.size (fun k hk _ => r3.block k hk (by simp)) (fun b o hb _ => World.cell?_of_block (a := ⟨b, o, none⟩) (r3.block b (hm.ofr n b hw hb).2 (by simp)))
        (fun b hb => .inr (by
          rcases r2.2 with ⟨rfl, _⟩ | ⟨b', cap, cur, rfl, q0, _⟩
          · simp [Value.ownBlock] at hb
          · simp only [Value.ownBlock, Option.some.injEq] at hb
            omega))
        (by
          rw [hlen]
          refine ⟨r2.1, ?_⟩
          rcases r2.2 with q | ⟨b', cap, cur, q1, q0, q2⟩
          · exact .inl q
          · exact .inr ⟨b', cap, cur, q1, Nat.zero_le _, q2⟩) hd' hlr (by rw [hlen]; omega)
      exact ⟨v', w', g', r1, k1, k2, k3⟩
    rcases hown.2 with ⟨rfl, h0⟩ | ⟨b, cap, cur, rfl, _, q1, q2, q3, q4, q5⟩
    · have h00 : rows = [] := List.length_eq_zero_iff.1 h0
      subst h00
      have hx : xs = [] := by have := hown.1; simpa using this
      subst hx
      refine grows ?_
      obtain ⟨v', w', r1, r2, r3, _⟩ := run_append_own (P := E.P) w w.heap.size t ty T in0 iz e by_ hs.und i1 i2 i3 i4 i5 hs.pos (.slice none 0 0) 0 [] ⟨by simp, .inl ⟨rfl, rfl⟩⟩ ⟨b2, o2, none⟩ rows2.length c news n2 hnews hone (by simpa using hmax) (by simpa using hbytes) (Nat.le_refl _)
      exact ⟨v', w', r1, by simpa using r2, r3⟩
    · by_cases hroom : rows.length + rows2.length ≤ cap
      · obtain ⟨w', r1, r2, r3⟩ := run_append_fits (P := E.P) w 0 t ty T in0 e hs.und i1 i3 b rows.length cap xs hown ⟨b2, o2, none⟩ rows2.length c news n2 hnews hone hroom
        have hob' : g.om n = some b := hob.symm
        obtain ⟨g', k1, k2, k3⟩ := hm.grown (rows' := rows ++ rows2) (y' := .slice (some ⟨b, 0, none⟩) (rows.length + rows2.length) cap) (w' := w') hy0 r3.os r3.tape r3.output r3.size (fun k hk h5 => r3.block k hk fun h6 => h5 (by rw [hob', h6]))
          (fun b' o h5 h6 => by
            rw [hob'] at h5
            cases h5
            rw [World.ownsRow.cellAt r2 o (Nat.lt_of_lt_of_le h6 (Nat.mul_le_mul_right _ (by omega))), World.ownsRow.cellAt hown o h6, List.getElem?_append_left (by rw [hown.1]; exact h6)])
          (fun b' hb' => .inl (by rw [hob']; exact hb')) (by rw [hlen]; exact r2) hd' hlr (by rw [hlen]; omega)
        exact ⟨_, w', g', r1, k1, k2, k3⟩
      · refine grows ?_
        have holds : ∀ j z, xs[j]? = some z → w.cell? ((⟨b, 0, none⟩ : Addr).add j) = some z := hown.cells (g := b) rfl
        exact run_append_arg_grows (P := E.P) w t ty T in0 iz e by_ hs.und i1 i2 i3 i4 i5 hs.pos ⟨b, 0, none⟩ rows.length cap xs hown.1 holds ⟨b2, o2, none⟩ rows2.length c news n2 hnews (by omega) hmax hbytes

section
variable {E : En} {ops : Array Oper} {rest : List Oper} {Q : Exit → St → Prop} {tm tm1 : List (Nat × AV)} {bl bl1 : List (Nat × List AV)} {ow : List Nat} {d : Nat} {ty : TypeId} {pos : String} {af : Array Edge}
/-- append: the name stays; what was known by it is data. -/
theorem wapp {x y : Operand} {t n T e by_ : Nat} {rows rows2 : List (List AV)} {yv : AV} [hs : SlOk E.P t T e by_] (hx : ev tm x = .own n T e rows) (hy : ev tm y = yv) (hr : arows yv = some (e, rows2)) (hcell : ∀ x ∈ rows2.flatten, isCell x = true) (hl2 : ∀ r ∈ rows2, r.length = e) (hl : rows.length + rows2.length ≤ 1048576) (hb : Nat.ble by_ 134217728 = true) (hd : Nat.blt d E.nt = true)
    (ht : killTO n tm = some tm1) (hbl : killBO n bl = some bl1) (hk : WL E ops rest Q ⟨(d, .own n T e (rows ++ rows2)) :: tm1, bl1, ow⟩) : WL E ops (⟨some d, .call ⟨.builtin .append, #[x, y], #[t, t]⟩, ty, pos, af, none⟩ :: rest) Q ⟨tm, bl, ow⟩ := by
  intro g a w hi
  unfold wpListIn
  rw [show Region.wanted ⟨some d, .call ⟨.builtin .append, #[x, y], #[t, t]⟩, ty, pos, af, none⟩ (yielded ops a.tmps) = true by simp [Region.wanted]]
  refine wpIn_of_wp (fun _ h => by cases h) ?_
  have h1 := rep_ev hi.tm x
  have h2 := rep_ev hi.tm y
  rw [hx] at h1; rw [hy] at h2
  simp only [rep] at h1
  obtain ⟨y', w', g', r1, r2, r3, r4⟩ := append_own (t := t) (ty := ty) hi.mem h1 (drep_arows h2 hr) hcell hl2 hl hb
  rw [killTO_eq] at ht
  rw [killBO_eq] at hbl
  cases ht
  cases hbl
  unfold Oper.wp
  have hrun : (execOp a.eval ⟨some d, .call ⟨.builtin .append, #[x, y], #[t, t]⟩, ty, pos, af, none⟩).run E.P w = .ok (.value y') w' := by
    simp [execOp, resolve, invoke, builtin, r1]
  rw [hrun]
  have hi' : Inv E g' ⟨killT n tm, killB n bl, ow⟩ a w' := ⟨r3, fun t => by rw [look_killT]; exact r2 _ _ (hi.tm t), hi.de, hi.sz⟩
  have := hi'.app (d := some d) (v := .own n T e (rows ++ rows2)) (y := y') (nb := []) (no := []) (fun k hk => by cases hk; exact Nat.le_of_ble_eq_true hd) (Goes.refl _ _) (by simpa using r3) (by simp only [rep]; exact r4)
  exact hk g' _ w' this
/-- The same; what it reads as is said otherwise. -/
theorem wappE {x y : Operand} {t n T e by_ : Nat} {rows rows2 out : List (List AV)} {yv : AV} [hs : SlOk E.P t T e by_] (hx : ev tm x = .own n T e rows) (hy : ev tm y = yv) (hr : arows yv = some (e, rows2)) (hcell : ∀ x ∈ rows2.flatten, isCell x = true) (hl2 : ∀ r ∈ rows2, r.length = e) (hl : rows.length + rows2.length ≤ 1048576) (hb : Nat.ble by_ 134217728 = true) (hd : Nat.blt d E.nt = true)
    (ho : rows ++ rows2 = out) (ht : killTO n tm = some tm1) (hbl : killBO n bl = some bl1) (hk : WL E ops rest Q ⟨(d, .own n T e out) :: tm1, bl1, ow⟩) : WL E ops (⟨some d, .call ⟨.builtin .append, #[x, y], #[t, t]⟩, ty, pos, af, none⟩ :: rest) Q ⟨tm, bl, ow⟩ := by
  subst ho
  exact wapp hx hy hr hcell hl2 hl hb hd ht hbl hk
end

/- A result whose slices are seen as data. -/
mutual
def datO : AV → Option AV
  | .agg cs => match datOL cs with | some r => some (.agg r) | none => none
  | .tup cs => match datOL cs with | some r => some (.tup r) | none => none
  | .own _ _ e rows => some (.sl e rows)
  | x => some x
def datOL : List AV → Option (List AV)
  | [] => some []
  | x :: xs => match datO x with
    | none => none
    | some y => match datOL xs with | some r => some (y :: r) | none => none
end
mutual
theorem rep_dat {g : Gh} {w : World} : ∀ {x z : AV} {y : Value}, datO x = some z → rep g w x y → rep g w z y
  | .agg cs, z, y, h, hr => by
    simp only [datO] at h
    split at h
    · rename_i r hr'
      cases h
      simp only [rep] at hr ⊢
      obtain ⟨a, e, hr⟩ := hr
      exact ⟨a, e, reps_dat hr' hr⟩
    · cases h
  | .tup cs, z, y, h, hr => by
    simp only [datO] at h
    split at h
    · rename_i r hr'
      cases h
      simp only [rep] at hr ⊢
      obtain ⟨a, e, hr⟩ := hr
      exact ⟨a, e, reps_dat hr' hr⟩
    · cases h
  | .own n T e rows, z, y, h, hr => by
    simp only [datO] at h
    cases h
    simp only [rep] at hr ⊢
    exact drep_of_own hr
  | .top, z, y, h, hr => by simp only [datO] at h; cases h; exact hr
  | .v x, z, y, h, hr => by simp only [datO] at h; cases h; exact hr
  | .sl e rows, z, y, h, hr => by simp only [datO] at h; cases h; exact hr
  | .ptr n o, z, y, h, hr => by simp only [datO] at h; cases h; exact hr
  | .eptr cs, z, y, h, hr => by simp only [datO] at h; cases h; exact hr
  | .fn f a b, z, y, h, hr => by simp only [datO] at h; cases h; exact hr
  | .arr n T e l, z, y, h, hr => by simp only [datO] at h; cases h; exact hr
theorem reps_dat {g : Gh} {w : World} : ∀ {xs zs : List AV} {ys : List Value}, datOL xs = some zs → reps g w xs ys → reps g w zs ys
  | [], zs, ys, h, hr => by simp only [datOL] at h; cases h; exact hr
  | x :: xs, zs, ys, h, hr => by
    simp only [datOL] at h
    split at h
    · cases h
    · rename_i y' hy'
      split at h
      · rename_i r hr'
        cases h
        simp only [reps] at hr ⊢
        obtain ⟨y, zs', e, k1, k2⟩ := hr
        exact ⟨y, zs', e, rep_dat hy' k1, reps_dat hr' k2⟩
      · cases h
end
theorem callOk_dat {P : Program} {f : Nat} {args : List AV} {X Y : AV} (h : CallOk P f args (fun r => r = X)) (hd : datO X = some Y) : CallOk P f args (fun r => r = Y) := by
  unfold CallOk at h ⊢
  intro I w vals hI ha
  refine (h I w vals hI ha).mono fun e w' he => ?_
  obtain ⟨y, r, g', h1, rfl, h2, h3⟩ := he
  exact ⟨y, _, g', h1, rfl, rep_dat hd h2, h3⟩
theorem callOk_nilSl {P : Program} {f : Nat} {args : List AV} {e : Nat} (h : CallOk P f args (fun r => r = .v (.slice none 0 0))) : CallOk P f args (fun r => r = .sl e []) := by
  unfold CallOk at h ⊢
  intro I w vals hI ha
  refine (h I w vals hI ha).mono fun x w' he => ?_
  obtain ⟨y, r, g', h1, rfl, h2, h3⟩ := he
  refine ⟨y, _, g', h1, rfl, ?_, h3⟩
  simp only [rep] at h2
  subst h2
  simp only [rep, drep]
  exact ⟨none, 0, rfl, .inl trivial, Nat.zero_le _⟩
end Go.Eng

namespace Go.Eng
open Go

/- A value that reads so whatever the ghosts and the world. -/
mutual
def pl : AV → Bool
  | .v _ => true
  | .top => true
  | .agg cs => plL cs
  | .tup cs => plL cs
  | .sl _ [] => true
  | _ => false
def plL : List AV → Bool
  | [] => true
  | x :: xs => pl x && plL xs
end
mutual
theorem rep_pl {g g' : Gh} {w w' : World} : ∀ {x : AV} {y : Value}, pl x = true → rep g w x y → rep g' w' x y
  | .top, _, _, _ => by simp [rep]
  | .v x, y, _, h => by simpa [rep] using h
  | .agg cs, y, hp, h => by
    simp only [rep, pl] at h hp ⊢
    obtain ⟨a, e, h⟩ := h
    exact ⟨a, e, reps_pl hp h⟩
  | .tup cs, y, hp, h => by
    simp only [rep, pl] at h hp ⊢
    obtain ⟨a, e, h⟩ := h
    exact ⟨a, e, reps_pl hp h⟩
  | .sl e [], y, _, h => by
    simp only [rep, drep] at h ⊢
    obtain ⟨A, c, h1, _, h3⟩ := h
    exact ⟨A, c, h1, .inl trivial, h3⟩
  | .sl e (r :: rs), y, hp, _ => by simp [pl] at hp
  | .own .., _, hp, _ => by simp [pl] at hp
  | .ptr .., _, hp, _ => by simp [pl] at hp
  | .eptr .., _, hp, _ => by simp [pl] at hp
  | .fn .., _, hp, _ => by simp [pl] at hp
  | .arr .., _, hp, _ => by simp [pl] at hp
theorem reps_pl {g g' : Gh} {w w' : World} : ∀ {xs : List AV} {ys : List Value}, plL xs = true → reps g w xs ys → reps g' w' xs ys
  | [], ys, _, h => by simpa [reps] using h
  | x :: xs, ys, hp, h => by
    simp only [reps, plL, Bool.and_eq_true] at h hp ⊢
    obtain ⟨y, zs, e, h1, h2⟩ := h
    exact ⟨y, zs, e, rep_pl hp.1 h1, reps_pl hp.2 h2⟩
end

/-- What is handed to a call: data, the call's own arrays among them. -/
inductive LeS (bl : List (Nat × List AV)) : List AV → List AV → Prop where
  | nil : LeS bl [] []
  | v {x : Value} {xs ys : List AV} (hs : LeS bl xs ys) : LeS bl (.v x :: xs) (.v x :: ys)
  | sl {e : Nat} {rows : List (List AV)} {xs ys : List AV} (hs : LeS bl xs ys) : LeS bl (.sl e rows :: xs) (.sl e rows :: ys)
  | own {n T e : Nat} {rows : List (List AV)} {xs ys : List AV} (hs : LeS bl xs ys) : LeS bl (.own n T e rows :: xs) (.sl e rows :: ys)
  | nilS {e : Nat} {xs ys : List AV} (hs : LeS bl xs ys) : LeS bl (.v (.slice none 0 0) :: xs) (.sl e [] :: ys)
  | arr {n T e l : Nat} {rows more : List (List AV)} {xs ys : List AV} (hb : lookB bl n = some (rows ++ more).flatten) (hl : l = rows.length) (hlen : ∀ r ∈ rows, r.length = e) (hp : ∀ x ∈ rows.flatten, plain x = true) (hs : LeS bl xs ys) : LeS bl (.arr n T e l :: xs) (.sl e rows :: ys)
  | agg {cs ds xs ys : List AV} (h : LeS bl cs ds) (hs : LeS bl xs ys) : LeS bl (.agg cs :: xs) (.agg ds :: ys)
theorem dreps_leS {E : En} {g : Gh} {bl bl' : List (Nat × List AV)} {ow : List Nat} {w : World} (hm : Mem E g bl' ow w) (hbl : ∀ p ∈ bl, p ∈ bl') {xs ys : List AV} (h : LeS bl xs ys) : ∀ {zs : List Value}, reps g w xs zs → dreps (seen g w) w ys zs := by
  induction h with
  | nil => intro zs h; simp only [reps] at h; simpa only [dreps] using h
  | v _ ih =>
    intro zs h
    simp only [reps, rep] at h
    obtain ⟨y, zs', e, h1, h2⟩ := h
    simp only [dreps, drep]
    exact ⟨y, zs', e, h1, ih h2⟩
  | sl _ ih =>
    intro zs h
    simp only [reps, rep] at h
    obtain ⟨y, zs', e, h1, h2⟩ := h
    simp only [dreps]
    exact ⟨y, zs', e, drep_mono (fun b o hb => .inl hb) (fun _ _ _ => rfl) h1, ih h2⟩
  | own _ ih =>
    intro zs h
    simp only [reps, rep] at h
    obtain ⟨y, zs', e, h1, h2⟩ := h
    simp only [dreps]
    exact ⟨y, zs', e, drep_mono (fun b o hb => .inl hb) (fun _ _ _ => rfl) (drep_of_own h1), ih h2⟩
  | nilS _ ih =>
    intro zs h
    simp only [reps, rep] at h
    obtain ⟨y, zs', e, h1, h2⟩ := h
    subst h1
    simp only [dreps, drep]
    exact ⟨_, zs', e, ⟨none, 0, rfl, .inl trivial, Nat.zero_le _⟩, ih h2⟩
  | @arr n T e l rows more xs ys hb hl hlen hp _ ih =>
    intro zs h
    subst hl
    simp only [reps, rep] at h
    obtain ⟨y, zs', ez, ⟨b, c, h3, _, rfl, h4, _⟩, h2⟩ := h
    simp only [dreps, drep]
    refine ⟨_, zs', ez, ⟨_, c, rfl, .inr ⟨b, 0, rfl, ?_⟩, h4⟩, ih h2⟩
    obtain ⟨b', arr, k1, k2, k3, k4⟩ := hm.blk _ _ (hbl _ (lookB_mem hb))
    have : b' = b := by rw [h3] at k1; exact (Option.some.inj k1).symm
    subst this
    rw [List.flatten_append] at k3
    refine drows_iff.2 ⟨hlen, dcells_of_list (dreps_take (I := seen g w) (w' := w) hp k3) fun j z hj => ?_⟩
    have hj' : arr.toList[j]? = some z := by
      rw [List.getElem?_take] at hj
      split at hj
      · exact hj
      · cases hj
    have hc : w.cell? ⟨b', 0 + j, none⟩ = some z := by rw [cell_of_heap k2, Nat.zero_add]; simpa using hj'
    exact ⟨hc, .inr ⟨⟨_, h3⟩, by rw [hc]; rfl⟩⟩
  | agg _ _ ih1 ih2 =>
    intro zs h
    simp only [reps, rep] at h
    obtain ⟨y, zs', e, ⟨a, ea, h1⟩, h2⟩ := h
    simp only [dreps, drep]
    exact ⟨y, zs', e, ⟨a, ea, ih1 h1⟩, ih2 h2⟩
theorem seen_cell {E : En} {g : Gh} {bl : List (Nat × List AV)} {ow : List Nat} {w : World} (hm : Mem E g bl ow w) : ∀ b o, seen g w b o → (w.cell? ⟨b, o, none⟩).isSome = true := fun b o hb => by
  rcases hb with hb | hb
  · exact hm.cell b o hb
  · exact hb.2
section
variable {E : En} {bl : List (Nat × List AV)} {tm : List (Nat × AV)} {d : Option Tmp} {ty : TypeId} {pos : String} {af : Array Edge} {gd : Option (Nat × Bool)}
/-- A call that reads the call's own arrays, too; what it gives is no memory. -/
theorem QV_callS {x : Operand} {xs : Array Operand} {ts : Array TypeId} {f : Nat} {ys : List AV} {r : AV} [hf : FnOk E.P f] (h : CallOk E.P f ys (fun r' => r' = r)) (hx : ev tm x = .v (.func (.func f) #[] #[])) (ha : LeS bl (xs.toList.map (ev tm)) ys) (hp : pl r = true) :
    QV E bl tm ⟨d, .call ⟨.value x, xs, ts⟩, ty, pos, af, gd⟩ r [] [] := by
  intro g w ρ bl' ow' hm hbl _ _ hop
  have h1 := hop x (by simp [Op.operands, Call.operands])
  have h2 : reps g w (xs.toList.map (ev tm)) (xs.toList.map ρ) := reps_map _ fun y hy => hop y (by simp [Op.operands, Call.operands] at hy ⊢; exact .inr hy)
  rw [hx] at h1
  simp only [rep] at h1
  obtain ⟨fn, f1, f2, f3⟩ := hf.ok
  have f2' : fn.name ≠ "runtime.NumGoroutine" := by simpa using f2
  have f3' : fn.body ≠ none := fun e => by rw [e] at f3; simp at f3
  have hrun : (execOp ρ ⟨d, .call ⟨.value x, xs, ts⟩, ty, pos, af, gd⟩).run E.P w = .ok (.enter f (xs.map ρ)) w := by
    simp [execOp, resolve, Deferred.ofValue, h1, invoke, callFunc, f1, f2', f3']
  rw [hrun]
  refine (h (seen g w) w (xs.map ρ) (seen_cell hm) (by rw [Array.toList_map]; exact dreps_leS hm hbl ha h2)).mono fun e w' he => ?_
  obtain ⟨y, r', g', rfl, rfl, h3, h4⟩ := he
  have hr : Ret g.I w (g0 g.I) w' := ⟨h4.below, fun _ _ h => h, fun _ _ h => .inl h, fun b o hb => by
    rw [World.cell?_of_block (a := ⟨b, o, none⟩) (h4.below.block b (cell_lt (hm.cell b o hb)) (fun h => h))]; exact hm.cell b o hb, fun n b h => h.elim, fun n n' b h => h.elim⟩
  obtain ⟨gc, h5, h6, _, _⟩ := hm.called hr 0 [] (fun n hn => by simp at hn)
  exact ⟨_, rfl, gc, h5, by simpa using h6, rep_pl hp h3⟩
end

section
variable {E : En} {ops : Array Oper} {rest : List Oper} {Q : Exit → St → Prop} {tm : List (Nat × AV)} {bl bl' : List (Nat × List AV)} {ow : List Nat} {d : Nat} {ty : TypeId} {pos : String} {af : Array Edge}
/-- What is handed to a function that marks: one of the call's own arrays, by the pinned name. -/
inductive MkN (n : Nat) : List AV → List AV → Prop where
  | nil : MkN n [] []
  | v {x : Value} {xs ys : List AV} (hs : MkN n xs ys) : MkN n (.v x :: xs) (.v x :: ys)
  | arr {T e l : Nat} {xs ys : List AV} (hs : MkN n xs ys) : MkN n (.arr n T e l :: xs) (.arr 1000000 T e l :: ys)
  | agg {cs ds xs ys : List AV} (h : MkN n cs ds) (hs : MkN n xs ys) : MkN n (.agg cs :: xs) (.agg ds :: ys)
theorem reps_mkN {g : Gh} {w : World} {n b T0 : Nat} (hm : g.m n = some b) (ht : g.mt n = T0) {xs ys : List AV} (h : MkN n xs ys) : ∀ {zs : List Value}, reps g w xs zs → reps (gM b T0) w ys zs := by
  induction h with
  | nil => intro zs h; simpa only [reps] using h
  | v _ ih => intro zs h; simp only [reps, rep] at h ⊢; obtain ⟨y, zs', e, h1, h2⟩ := h; exact ⟨y, zs', e, h1, ih h2⟩
  | arr _ ih =>
    intro zs h
    simp only [reps, rep] at h ⊢
    obtain ⟨y, zs', e, ⟨c, k, k1, k2, k3, k4, _⟩, h2⟩ := h
    rw [hm] at k1
    cases k1
    exact ⟨y, zs', e, ⟨b, k, by simp [gM], by rw [← k2, ht]; rfl, k3, k4, fun h => by omega⟩, ih h2⟩
  | agg _ _ ih1 ih2 => intro zs h; simp only [reps, rep] at h ⊢; obtain ⟨y, zs', e, ⟨a, ea, h1⟩, h2⟩ := h; exact ⟨y, zs', e, ⟨a, ea, ih1 h1⟩, ih2 h2⟩
/- Is the array among them? -/
mutual
def hasA (n T : Nat) : AV → Bool
  | .arr k U _ _ => Nat.beq k n && Nat.beq U T
  | .agg cs => hasAL n T cs
  | _ => false
def hasAL (n T : Nat) : List AV → Bool
  | [] => false
  | x :: xs => hasA n T x || hasAL n T xs
end
mutual
theorem rep_hasA {g : Gh} {w : World} {n T : Nat} : ∀ {x : AV} {y : Value}, hasA n T x = true → rep g w x y → g.mt n = T
  | .arr k U e l, y, h, hr => by
    simp only [hasA, Bool.and_eq_true] at h
    have h1 := Nat.eq_of_beq_eq_true h.1
    have h2 := Nat.eq_of_beq_eq_true h.2
    subst h1; subst h2
    simp only [rep] at hr
    obtain ⟨_, _, _, k, _⟩ := hr
    exact k
  | .agg cs, y, h, hr => by
    simp only [hasA] at h
    simp only [rep] at hr
    obtain ⟨_, _, hr⟩ := hr
    exact reps_hasA h hr
  | .top, _, h, _ => by simp [hasA] at h
  | .v _, _, h, _ => by simp [hasA] at h
  | .tup _, _, h, _ => by simp [hasA] at h
  | .sl .., _, h, _ => by simp [hasA] at h
  | .own .., _, h, _ => by simp [hasA] at h
  | .ptr .., _, h, _ => by simp [hasA] at h
  | .eptr .., _, h, _ => by simp [hasA] at h
  | .fn .., _, h, _ => by simp [hasA] at h
theorem reps_hasA {g : Gh} {w : World} {n T : Nat} : ∀ {xs : List AV} {ys : List Value}, hasAL n T xs = true → reps g w xs ys → g.mt n = T
  | [], _, h, _ => by simp [hasAL] at h
  | x :: xs, ys, h, hr => by
    simp only [hasAL, Bool.or_eq_true] at h
    simp only [reps] at hr
    obtain ⟨y, zs, _, h1, h2⟩ := hr
    rcases h with h | h
    · exact rep_hasA h h1
    · exact reps_hasA h h2
end
/-- A call that marks one of the call's own arrays. -/
theorem wlmk {x : Operand} {xs : Array Operand} {ts : Array TypeId} {f n T e : Nat} {args : List AV} {rows rows' more : List (List AV)} {r : Value} [hf : FnOk E.P f] (h : CallMark E.P f T e args rows rows' r) (hmore : MoreOk e more) (hx : ev tm x = .v (.func (.func f) #[] #[])) (ha : MkN n (xs.toList.map (ev tm)) args) (hat : hasAL n T (xs.toList.map (ev tm)) = true)
    (hb : lookB bl n = some (rows ++ more).flatten) (hp : ∀ x ∈ rows.flatten, plain x = true) (hp' : ∀ x ∈ rows'.flatten, plain x = true) (hs : setBO bl n (rows' ++ more).flatten = some bl') (hro : n ∉ E.ron) (hd : Nat.blt d E.nt = true)
    (hk : WL E ops rest Q ⟨(d, .v r) :: tm, bl', ow⟩) : WL E ops (⟨some d, .call ⟨.value x, xs, ts⟩, ty, pos, af, none⟩ :: rest) Q ⟨tm, bl, ow⟩ := by
  intro g a w hi
  unfold wpListIn
  rw [show Region.wanted ⟨some d, .call ⟨.value x, xs, ts⟩, ty, pos, af, none⟩ (yielded ops a.tmps) = true by simp [Region.wanted]]
  refine wpIn_of_wp (fun _ h => by cases h) ?_
  have h1 := rep_ev hi.tm x
  have h2 : reps g w (xs.toList.map (ev tm)) (xs.toList.map a.eval) := reps_map _ fun y _ => rep_ev hi.tm y
  rw [hx] at h1
  simp only [rep] at h1
  obtain ⟨fn, f1, f2, f3⟩ := hf.ok
  have f2' : fn.name ≠ "runtime.NumGoroutine" := by simpa using f2
  have f3' : fn.body ≠ none := fun e => by rw [e] at f3; simp at f3
  have hrun : (execOp a.eval ⟨some d, .call ⟨.value x, xs, ts⟩, ty, pos, af, none⟩).run E.P w = .ok (.enter f (xs.map a.eval)) w := by
    simp [execOp, resolve, Deferred.ofValue, h1, invoke, callFunc, f1, f2', f3']
  unfold Oper.wp
  rw [hrun]
  have hT : g.mt n = T := reps_hasA hat h2
  obtain ⟨c, arr, m1, m2, m3, m4⟩ := hi.mem.blk _ _ (lookB_mem hb)
  rw [hT] at m2
  have pm : ∀ rs : List (List AV), (∀ x ∈ rs.flatten, plain x = true) → ∀ x ∈ (rs ++ more).flatten, plain x = true := fun rs hr x hx => by
    rw [List.flatten_append, List.mem_append] at hx
    rcases hx with hx | hx
    · exact hr x hx
    · obtain ⟨l, hl, hx⟩ := List.mem_flatten.1 hx
      exact (hmore l hl).2 x hx
  have hc := h w c (xs.map a.eval) arr more hmore m2 (reps_plain (pm rows hp) m3) (by rw [Array.toList_map]; exact reps_mkN m1 hT ha h2)
  refine hc.mono fun e' w' he => ?_
  obtain ⟨rfl, hB, arr', n1, g', n2⟩ := he
  obtain ⟨k1, k2⟩ := hi.mem.marked m1 hro hB (by rw [hT]; exact n1) m4 (reps_plain (g' := g) (w' := w') (pm rows' hp') n2)
  rw [setBO_eq hs] at k2
  have hi' : Inv E g ⟨tm, bl', ow⟩ a w' := ⟨k2, fun t => rep_goes k1 (hi.tm t), hi.de, hi.sz⟩
  have := hi'.app (d := some d) (v := .v r) (y := r) (nb := []) (no := []) (fun k hk => by cases hk; exact Nat.le_of_ble_eq_true hd) (Goes.refl _ _) (by simpa using k2) (by simp only [rep])
  exact hk g _ w' this
end
end Go.Eng

namespace Go.Eng
open Go
section
variable {E : En} {bl : List (Nat × List AV)} {tm : List (Nat × AV)} {d : Option Tmp} {ty : TypeId} {pos : String} {af : Array Edge} {gd : Option (Nat × Bool)} {op : Op} {v : AV}
theorem qv0 (h : QV E bl tm ⟨d, op, ty, pos, af, gd⟩ v [] [] := by first | exact q_move rfl | exact q_assign rfl | exact q_load rfl rfl rfl rfl | exact QV_fieldAddr rfl | exact QV_ar rfl rfl rfl (by omega) | exact QV_bin rfl rfl rfl | exact q_loadE rfl rfl | exact q_fieldAddrE rfl rfl | exact QV_not rfl) : QV E bl tm ⟨d, op, ty, pos, af, gd⟩ v [] [] := h
theorem qv1 (h : QV E bl tm ⟨d, op, ty, pos, af, gd⟩ v [] [] := by first | exact q_pick rfl rfl | exact QV_neg' rfl (by omega) | exact QV_neg rfl | exact q_lenM rfl rfl | exact QV_len rfl rfl | exact QV_lenNil rfl | exact QV_extract rfl rfl | exact q_field rfl rfl rfl rfl | exact QV_min rfl rfl | exact QV_max rfl rfl | exact q_build rfl | exact QV_nilCheck rfl trivial | exact QV_nilCheckF rfl | exact q_makeFunc rfl rfl) : QV E bl tm ⟨d, op, ty, pos, af, gd⟩ v [] [] := h
theorem q_callA {x : Operand} {xs : Array Operand} {ts : Array TypeId} {f : Nat} {ys : List AV} {r v : AV} [hf : FnOk E.P f] (h : CallOk E.P f ys (fun r' => r' = r)) (hx : ev tm x = .v (.func (.func f) #[] #[]) := by exact rfl) (ha : LeDs (xs.toList.map (ev tm)) ys := by (repeat' (first | exact LeDs.nil | refine LeDs.cons (by first | exact LeD.v | exact LeD.sl | exact LeD.own | exact LeD.nil | exact LeD.top) ?_ | refine LeDs.agg ?_ ?_)); first | done | fail "open") (ho : ownsIn [] r = true := by exact rfl) (hv : renO 0 r = some v := by exact rfl) :
    QV E bl tm ⟨d, .call ⟨.value x, xs, ts⟩, ty, pos, af, gd⟩ v [] [] := q_call h hx ha ho hv
theorem q_call1A {x : Operand} {xs : Array Operand} {ts : Array TypeId} {f : Nat} {ys : List AV} {r v : AV} (k n : Nat) [hf : FnOk E.P f] (h : CallOk E.P f ys (fun r' => r' = r)) (hx : ev tm x = .v (.func (.func f) #[] #[]) := by exact rfl) (ha : LeDs (xs.toList.map (ev tm)) ys := by (repeat' (first | exact LeDs.nil | refine LeDs.cons (by first | exact LeD.v | exact LeD.sl | exact LeD.own | exact LeD.nil | exact LeD.top) ?_ | refine LeDs.agg ?_ ?_)); first | done | fail "open") (ho : ownsIn [n] r = true := by exact rfl) (hv : renO k r = some v := by exact rfl) :
    QV E bl tm ⟨d, .call ⟨.value x, xs, ts⟩, ty, pos, af, gd⟩ v [] [k + n] := q_call1 k n h hx ha ho hv
theorem q_callSA {x : Operand} {xs : Array Operand} {ts : Array TypeId} {f : Nat} {ys : List AV} {r : AV} [hf : FnOk E.P f] (h : CallOk E.P f ys (fun r' => r' = r)) (hx : ev tm x = .v (.func (.func f) #[] #[]) := by exact rfl) (ha : LeS bl (xs.toList.map (ev tm)) ys := by (repeat' (first | exact LeS.nil | refine LeS.v ?_ | refine LeS.sl ?_ | refine LeS.own ?_ | refine LeS.arr rfl (by first | exact len_map | exact len_mks) (map_lens (fun _ => rfl)) (map_plainB (fun _ => rfl)) ?_ | refine LeS.nilS ?_ | refine LeS.agg ?_ ?_)); first | done | fail "open") (hp : pl r = true := by exact rfl) :
    QV E bl tm ⟨d, .call ⟨.value x, xs, ts⟩, ty, pos, af, gd⟩ r [] [] := QV_callS h hx ha hp
end
section
variable {ops : Array Oper} {tm : List (Nat × AV)} {gd : Option (Nat × Bool)}
theorem gy0 (h : GY ops tm gd := by first | exact trivial | exact ⟨_, rfl, rfl⟩) : GY ops tm gd := h
end
end Go.Eng

namespace Go.Eng
open Go
theorem wlu {E : En} {ops : Array Oper} {rest : List Oper} {Q : Exit → St → Prop} {tm : List (Nat × AV)} {bl : List (Nat × List AV)} {ow : List Nat} {d : Nat} {op : Op} {ty : TypeId} {pos : String} {af : Array Edge} {gd : Option (Nat × Bool)}
    (hg : GU ops tm gd) (hd : Nat.blt d E.nt = true) (hk : WL E ops rest Q ⟨(d, .v undef) :: tm, bl, ow⟩) : WL E ops (⟨some d, op, ty, pos, af, gd⟩ :: rest) Q ⟨tm, bl, ow⟩ := by
  cases gd with
  | none => exact hg.elim
  | some jb =>
    obtain ⟨j, b⟩ := jb
    obtain ⟨d', h1, h2⟩ := hg
    intro g a w hi
    unfold wpListIn
    have h3 := hi.tm d'
    simp only [h2, rep] at h3
    have : Region.wanted ⟨some d, op, ty, pos, af, some (j, b)⟩ (yielded ops a.tmps) = false := by simp [Region.wanted, yielded_un h1 h3]
    rw [this]
    have := hi.app (d := some d) (v := .v undef) (y := undef) (nb := []) (no := []) (fun k hk => by cases hk; exact Nat.le_of_ble_eq_true hd) (Goes.refl g w) hi.mem (by simp only [rep])
    exact ⟨fun _ _ => trivial, hk g _ w this⟩
end Go.Eng

namespace Go.Eng
open Go

/-- The fields, one cell each: a number (true) or a truth (false). -/
inductive FlatF (P : Program) : Nat → List Field → List Bool → Prop where
  | nil {i : Nat} : FlatF P i [] []
  | int {i : Nat} {f : Field} {fs : List Field} {ks : List Bool} {k : IntKind} (h1 : f.name ≠ "_") (h2 : f.offset = i) (h3 : TyOk P f.type false 1) (h4 : P.underlying f.type = some (.int k)) (hs : FlatF P (i + 1) fs ks) : FlatF P i (f :: fs) (true :: ks)
  | bool {i : Nat} {f : Field} {fs : List Field} {ks : List Bool} (h1 : f.name ≠ "_") (h2 : f.offset = i) (h3 : TyOk P f.type false 1) (h4 : P.underlying f.type = some .bool) (hs : FlatF P (i + 1) fs ks) : FlatF P i (f :: fs) (false :: ks)
class FlatOk (P : Program) (t : Nat) (ks : outParam (List Bool)) : Prop where
  ok : ∃ fs, P.underlying t = some (.struct fs) ∧ P.stoodInHeld t = false ∧ P.eqGuardType P.depth t = false ∧ FlatF P 0 fs.toList ks
section
variable {E : En} {bl : List (Nat × List AV)} {tm : List (Nat × AV)} {d : Option Tmp} {ty : TypeId} {pos : String} {af : Array Edge} {gd : Option (Nat × Bool)}
end
end Go.Eng

namespace Go.Eng
open Go
section
variable {α : Type} {row : α → List AV} {mk : Int → Nat → α} {k : Int} {l : List α} {more : List (List AV)} {i e : Nat}
def mks (mk : Int → Nat → α) (k : Int) (n : Nat) : List α := (List.range n).map (mk k)
theorem mks_len {n : Nat} : (mks mk k n).length = n := by simp [mks]
theorem mks_at {n : Nat} (h : i < n) : (mks mk k n)[i]? = some (mk k i) := by simp [mks, h]
def mkR (row : α → List AV) (mk : Int → Nat → α) (k : Int) (l : List α) (more : List (List AV)) (i : Nat) : List (List AV) := (mks mk k i).map row ++ ((l.drop i).map row ++ more)
theorem len_map {β : Type} {f : α → β} {l : List α} : l.length = (l.map f).length := (List.length_map _).symm
theorem len_mks {β : Type} {f : α → β} {n : Nat} : n = ((mks mk k n).map f).length := by rw [List.length_map, mks_len]
theorem mkR_drop {p : α} (h : l[i]? = some p) : l.drop i = p :: l.drop (i + 1) := by
  obtain ⟨h1, h2⟩ := List.getElem?_eq_some_iff.1 h
  rw [List.drop_eq_getElem_cons h1, h2]
theorem mkR_at {p : α} (h : l[i]? = some p) : (mkR row mk k l more i)[i]? = some (row p) := by
  unfold mkR
  rw [List.getElem?_append_right (by simp [mks_len]), List.length_map, mks_len, Nat.sub_self, mkR_drop h]
  rfl
theorem mkR_set {p : α} (h : l[i]? = some p) : (mkR row mk k l more i).set i (row (mk k i)) = mkR row mk k l more (i + 1) := by
  unfold mkR
  rw [List.set_append_right _ _ (by simp [mks_len]), List.length_map, mks_len, Nat.sub_self, mkR_drop h]
  simp [mks, List.range_succ]
theorem mkR_len (hf : ∀ a, (row a).length = e) (hm : MoreOk e more) : ∀ r ∈ mkR row mk k l more i, r.length = e := by
  intro r hr
  unfold mkR at hr
  rcases List.mem_append.1 hr with h | h
  · obtain ⟨p, _, rfl⟩ := List.mem_map.1 h; exact hf p
  · rcases List.mem_append.1 h with h | h
    · obtain ⟨p, _, rfl⟩ := List.mem_map.1 h; exact hf p
    · exact (hm r h).1
theorem mkR_plain (hf : ∀ a, ∀ x ∈ row a, plain x = true) (hm : MoreOk e more) (i : Nat) : ∀ x ∈ (mkR row mk k l more i).flatten, plain x = true := by
  intro x hx
  obtain ⟨r, hr, hx⟩ := List.mem_flatten.1 hx
  unfold mkR at hr
  rcases List.mem_append.1 hr with h | h
  · obtain ⟨p, _, rfl⟩ := List.mem_map.1 h; exact hf p x hx
  · rcases List.mem_append.1 h with h | h
    · obtain ⟨p, _, rfl⟩ := List.mem_map.1 h; exact hf p x hx
    · exact (hm r h).2 x hx
theorem map_plain (hf : ∀ a, ∀ x ∈ row a, plain x = true) (l : List α) : ∀ x ∈ (l.map row).flatten, plain x = true := by
  intro x hx
  obtain ⟨r, hr, hx⟩ := List.mem_flatten.1 hx
  obtain ⟨p, _, rfl⟩ := List.mem_map.1 hr
  exact hf p x hx
theorem map_plainB (hf : ∀ a, (row a).all plain = true) : ∀ x ∈ (l.map row).flatten, plain x = true :=
  map_plain (fun a x hx => List.all_eq_true.1 (hf a) x hx) l
theorem map_lens (hf : ∀ a, (row a).length = e) : ∀ r ∈ l.map row, r.length = e := by
  intro r hr
  obtain ⟨p, _, rfl⟩ := List.mem_map.1 hr
  exact hf p
end
structure RowAt (rows : List (List AV)) (i e : Nat) (r : List AV) : Prop where
  at_ : rows[i]? = some r
  len : ∀ r ∈ rows, r.length = e
theorem RowAt.set {rows : List (List AV)} {i e : Nat} {r r' : List AV} (h : RowAt rows i e r) (h' : r'.length = e) : RowAt (rows.set i r') i e r' :=
  ⟨by rw [List.getElem?_set_self (List.getElem?_eq_some_iff.1 h.at_).1], fun s hs => by
    rcases List.mem_or_eq_of_mem_set hs with hs | rfl
    · exact h.len s hs
    · exact h'⟩
end Go.Eng

namespace Go.Eng
open Go

/-- THE CONTRACT OF A FUNCTION THAT HANDS BACK NEW ARRAYS: r, in it arrays by the names of nb, with their cells. -/
def CallNew (P : Program) (f : Nat) (args : List AV) (nb : List (Nat × List AV)) (r : AV) : Prop :=
  ∀ (I : Nat → Nat → Prop) (w : World) (vals : Array Value), (∀ b o, I b o → (w.cell? ⟨b, o, none⟩).isSome = true) → dreps I w args vals.toList →
    Calls P f vals w fun e w' => ∃ y, ∃ g' : Gh, e = .returned y ∧ rep g' w' r y ∧ BelowM w.heap.size (fun _ => False) w w' ∧
      (∀ n cs, (n, cs) ∈ nb → ∃ b arr, g'.m n = some b ∧ w.heap.size ≤ b ∧ b < w'.heap.size ∧ w'.heap[b]? = some (.cells arr (g'.mt n) (0, 0)) ∧ reps g' w' cs arr.toList) ∧
      ∀ n n' b, g'.m n = some b → g'.m n' = some b → n = n'
def newQ (E : En) (rs : List ResultVar) (nb : List (Nat × List AV)) (r : AV) : Exit → St → Prop
  | .normal, s => (∃ xs, resA E.P s rs xs ∧ oneA xs = r) ∧ ∀ p ∈ nb, p ∈ s.bl
  | .ret, s => (∃ xs, resA E.P s rs xs ∧ oneA xs = r) ∧ ∀ p ∈ nb, p ∈ s.bl
  | _, _ => False
theorem callNew {P : Program} {f nt : Nat} {fn : Func} {rs : Array ResultVar} {c : Code} {args : List AV} {tm : List (Nat × AV)} {nb : List (Nat × List AV)} {r : AV} (hf : P.funcs[f]? = some fn) (hnt : fn.ntmps = nt) (hrs : fn.results = rs) (hb : fn.body = some c) (hn : Nat.ble args.length nt = true) (htm : iniO 0 args = some tm)
    (h : ∀ (B : Nat) (w0 : World) (I0 : Nat → Nat → Prop), W ⟨P, B, w0, nt, fun _ => False, [], I0, fun _ _ _ => False, none, []⟩ c (newQ ⟨P, B, w0, nt, fun _ => False, [], I0, fun _ _ _ => False, none, []⟩ rs.toList nb r) ⟨tm, [], []⟩) : CallNew P f args nb r := by
  subst hnt; subst hrs
  intro I w vals hI hargs
  have htm' := iniO_eq htm
  let E : En := ⟨P, w.heap.size, w, fn.ntmps, fun _ => False, [], I, fun _ _ _ => False, none, []⟩
  let g : Gh := ⟨I, fun _ => none, fun _ => none, fun _ => False, fun _ => 0⟩
  have hlen := dreps_length hargs
  have hn' := Nat.le_of_ble_eq_true hn
  have hargs' : reps g w args vals.toList := reps_of_dreps hargs
  refine calls_of_wp hf hb ?_
  refine wp_W (h w.heap.size w I g _ w ⟨⟨BelowM.refl _ _ _, Nat.le_refl _, hI, fun n b h => by simp [g] at h, fun n b h => by simp [g] at h, fun n n' b h => by simp [g] at h, fun n n' b h => by simp [g] at h, fun n n' b h => by simp [g] at h,
    fun n cs h => by simp at h, fun n b h => by simp [g] at h, fun n h => by simp [g] at h, fun b o h => .inl h, fun b o h => h, fun n b T h => h.elim⟩, fun t => ?_, rfl, ?_⟩) fun e a' w' hq => ?_
  · rw [← htm']
    simp only [look_zip, Nat.zero_le, if_true, Nat.sub_zero]
    rcases Nat.lt_or_ge t args.length with h1 | h1
    · obtain ⟨y, hy, hr⟩ := reps_get hargs' (List.getElem?_eq_getElem h1)
      have : t < vals.size := by simpa [← hlen] using h1
      have hy' : vals[t] = y := by simpa [this] using hy
      simp only [List.getD_eq_getElem?_getD, List.getElem?_eq_getElem h1, Option.getD_some]
      simp only [Array.getD_eq_getD_getElem?, Array.getElem?_append_left this, Array.getElem?_eq_getElem this, Option.getD_some, hy']
      exact hr
    · simp only [List.getD_eq_getElem?_getD, List.getElem?_eq_none h1, Option.getD_none, rep]
  · have : vals.size = args.length := by simpa using hlen
    simp; omega
  · obtain ⟨g', s', hq, hi⟩ := hq
    have fin : ((∃ xs, resA P s' fn.results.toList xs ∧ oneA xs = r) ∧ ∀ p ∈ nb, p ∈ s'.bl) → a'.defers = [] ∧ ∃ v, (results fn a'.tmps).run P w' = .ok v w' ∧ ∃ y, ∃ g' : Gh, Ending.returned v = .returned y ∧ rep g' w' r y ∧ BelowM w.heap.size (fun _ => False) w w' ∧
      (∀ n cs, (n, cs) ∈ nb → ∃ b arr, g'.m n = some b ∧ w.heap.size ≤ b ∧ b < w'.heap.size ∧ w'.heap[b]? = some (.cells arr (g'.mt n) (0, 0)) ∧ reps g' w' cs arr.toList) ∧
      ∀ n n' b, g'.m n = some b → g'.m n' = some b → n = n' := by
      rintro ⟨⟨xs, h1, rfl⟩, h3⟩
      obtain ⟨y, k1, k2⟩ := run_results hi h1
      refine ⟨hi.de, y, k1, y, g', rfl, k2, ⟨hi.mem.below.os, hi.mem.below.tape, hi.mem.below.output, hi.mem.below.size, hi.mem.below.block⟩, fun n cs hn => ?_, hi.mem.minj⟩
      obtain ⟨b, arr, m1, m2, m3, _⟩ := hi.mem.blk n cs (h3 _ hn)
      obtain ⟨m4, m5⟩ := hi.mem.mfr n b m1
      have m6 : w.heap.size ≤ b := by
        rcases m4 with m4 | m4 | m4
        · cases m4
        · exact m4
        · exact m4.elim
      exact ⟨b, arr, m1, m6, m5, m2, m3⟩
    cases e with
    | normal => exact fin hq
    | ret => exact fin hq
    | _ => exact hq.elim

/-- Names: the callee's, the caller's. -/
def outN : List (Nat × Nat) → Nat → Option Nat
  | [], _ => none
  | (n, N) :: r, k => bif Nat.beq n k then some N else outN r k
def inN : List (Nat × Nat) → Nat → Option Nat
  | [], _ => none
  | (n, N) :: r, k => bif Nat.beq N k then some n else inN r k
theorem inN_mem : ∀ {σ : List (Nat × Nat)} {k n : Nat}, inN σ k = some n → (n, k) ∈ σ
  | [], k, n, h => by simp [inN] at h
  | (m, N) :: r, k, n, h => by
    simp only [inN] at h
    cases hb : Nat.beq N k
    · rw [hb] at h; exact List.mem_cons_of_mem _ (inN_mem h)
    · rw [hb] at h
      simp only [cond_true, Option.some.injEq] at h
      subst h
      rw [Nat.eq_of_beq_eq_true hb]
      simp
theorem outN_mem : ∀ {σ : List (Nat × Nat)} {k N : Nat}, outN σ k = some N → (k, N) ∈ σ
  | [], k, n, h => by simp [outN] at h
  | (m, N) :: r, k, n, h => by
    simp only [outN] at h
    cases hb : Nat.beq m k
    · rw [hb] at h; exact List.mem_cons_of_mem _ (outN_mem h)
    · rw [hb] at h
      simp only [cond_true, Option.some.injEq] at h
      subst h
      rw [Nat.eq_of_beq_eq_true hb]
      simp
/-- The caller's names are pairwise different, the callee's too, and none is small. -/
def sepB : List (Nat × Nat) → Bool
  | [] => true
  | (n, N) :: r => Nat.ble 1000000 N && (r.all (fun p => !Nat.beq p.2 N && !Nat.beq p.1 n) && sepB r)
theorem sepB_in : ∀ {σ : List (Nat × Nat)}, sepB σ = true → ∀ {n N : Nat}, (n, N) ∈ σ → inN σ N = some n ∧ 1000000 ≤ N ∧ ∀ n' N', (n', N') ∈ σ → (N' = N → n' = n) ∧ (n' = n → N' = N)
  | [], _, n, N, h => by simp at h
  | (m, M) :: r, hs, n, N, h => by
    simp only [sepB, Bool.and_eq_true, List.all_eq_true, Bool.not_eq_true'] at hs
    obtain ⟨h1, h2, h3⟩ := hs
    have hne : ∀ a A, (a, A) ∈ r → A ≠ M ∧ a ≠ m := fun a A ha => ⟨fun e => by have := (h2 (a, A) ha).1; simp [e] at this, fun e => by have := (h2 (a, A) ha).2; simp [e] at this⟩
    rcases List.mem_cons.1 h with h | h
    · cases h
      refine ⟨by simp [inN], Nat.le_of_ble_eq_true h1, fun n' N' h' => ?_⟩
      rcases List.mem_cons.1 h' with h' | h'
      · cases h'; exact ⟨fun _ => rfl, fun _ => rfl⟩
      · exact ⟨fun e => absurd e (hne _ _ h').1, fun e => absurd e (hne _ _ h').2⟩
    · obtain ⟨k1, k2, k3⟩ := sepB_in h3 h
      have hM := hne _ _ h
      refine ⟨?_, k2, fun n' N' h' => ?_⟩
      · have : Nat.beq M N = false := by
          cases hb : Nat.beq M N
          · rfl
          · exact absurd (Nat.eq_of_beq_eq_true hb).symm hM.1
        simp only [inN, this, cond_false]; exact k1
      · rcases List.mem_cons.1 h' with h' | h'
        · cases h'; exact ⟨fun e => absurd e.symm hM.1, fun e => absurd e.symm hM.2⟩
        · exact k3 n' N' h'
mutual
def renS (σ : List (Nat × Nat)) : AV → Option AV
  | .v x => some (.v x)
  | .top => some .top
  | .arr n T e l => match outN σ n with | some N => some (.arr N T e l) | none => none
  | .agg cs => match renSL σ cs with | some ds => some (.agg ds) | none => none
  | .tup cs => match renSL σ cs with | some ds => some (.tup ds) | none => none
  | _ => none
def renSL (σ : List (Nat × Nat)) : List AV → Option (List AV)
  | [] => some []
  | x :: xs => match renS σ x, renSL σ xs with | some y, some ys => some (y :: ys) | _, _ => none
end
def renB (σ : List (Nat × Nat)) : List (Nat × List AV) → Option (List (Nat × List AV))
  | [] => some []
  | (n, cs) :: r => match outN σ n, renB σ r with | some N, some r' => some ((N, cs) :: r') | _, _ => none
theorem renB_mem {σ : List (Nat × Nat)} : ∀ {nb nb' : List (Nat × List AV)}, renB σ nb = some nb' → (∀ N cs, (N, cs) ∈ nb' → ∃ n, (n, cs) ∈ nb ∧ (n, N) ∈ σ) ∧ ∀ n cs, (n, cs) ∈ nb → ∃ N, (N, cs) ∈ nb' ∧ (n, N) ∈ σ
  | [], nb', h => by
    simp only [renB, Option.some.injEq] at h
    subst h
    exact ⟨fun _ _ h => by simp at h, fun _ _ h => by simp at h⟩
  | (n, cs) :: r, nb', h => by
    simp only [renB] at h
    cases h1 : outN σ n with
    | none => simp [h1] at h
    | some N =>
      cases h2 : renB σ r with
      | none => simp [h1, h2] at h
      | some r' =>
        simp only [h1, h2, Option.some.injEq] at h
        subst h
        obtain ⟨i1, i2⟩ := renB_mem h2
        refine ⟨fun M ds hm => ?_, fun m ds hm => ?_⟩
        · rcases List.mem_cons.1 hm with hm | hm
          · cases hm; exact ⟨n, by simp, outN_mem h1⟩
          · obtain ⟨m, k1, k2⟩ := i1 M ds hm; exact ⟨m, by simp [k1], k2⟩
        · rcases List.mem_cons.1 hm with hm | hm
          · cases hm; exact ⟨N, by simp, outN_mem h1⟩
          · obtain ⟨M, k1, k2⟩ := i2 m ds hm; exact ⟨M, by simp [k1], k2⟩
mutual
theorem rep_renS {g' gc : Gh} {w w' : World} {σ : List (Nat × Nat)} (hA : ∀ n N T e l y, (n, N) ∈ σ → rep g' w (.arr n T e l) y → rep gc w' (.arr N T e l) y) : ∀ {x z : AV} {y : Value}, renS σ x = some z → rep g' w x y → rep gc w' z y
  | .v x, z, y, h, hr => by
    simp only [renS, Option.some.injEq] at h
    subst h
    simpa only [rep] using hr
  | .top, z, y, h, hr => by
    simp only [renS, Option.some.injEq] at h
    subst h
    simp only [rep]
  | .arr n T e l, z, y, h, hr => by
    simp only [renS] at h
    cases h1 : outN σ n with
    | none => simp [h1] at h
    | some N =>
      simp only [h1, Option.some.injEq] at h
      subst h
      exact hA n N T e l y (outN_mem h1) hr
  | .agg cs, z, y, h, hr => by
    simp only [renS] at h
    cases h1 : renSL σ cs with
    | none => simp [h1] at h
    | some ds =>
      simp only [h1, Option.some.injEq] at h
      subst h
      simp only [rep] at hr ⊢
      obtain ⟨a, e, hr⟩ := hr
      exact ⟨a, e, reps_renS hA h1 hr⟩
  | .tup cs, z, y, h, hr => by
    simp only [renS] at h
    cases h1 : renSL σ cs with
    | none => simp [h1] at h
    | some ds =>
      simp only [h1, Option.some.injEq] at h
      subst h
      simp only [rep] at hr ⊢
      obtain ⟨a, e, hr⟩ := hr
      exact ⟨a, e, reps_renS hA h1 hr⟩
  | .sl .., z, y, h, _ => by simp [renS] at h
  | .own .., z, y, h, _ => by simp [renS] at h
  | .ptr .., z, y, h, _ => by simp [renS] at h
  | .eptr .., z, y, h, _ => by simp [renS] at h
  | .fn .., z, y, h, _ => by simp [renS] at h
theorem reps_renS {g' gc : Gh} {w w' : World} {σ : List (Nat × Nat)} (hA : ∀ n N T e l y, (n, N) ∈ σ → rep g' w (.arr n T e l) y → rep gc w' (.arr N T e l) y) : ∀ {xs zs : List AV} {ys : List Value}, renSL σ xs = some zs → reps g' w xs ys → reps gc w' zs ys
  | [], zs, ys, h, hr => by
    simp only [renSL, Option.some.injEq] at h
    subst h
    simpa only [reps] using hr
  | x :: xs, zs, ys, h, hr => by
    simp only [renSL] at h
    cases h1 : renS σ x with
    | none => simp [h1] at h
    | some z =>
      cases h2 : renSL σ xs with
      | none => simp [h1, h2] at h
      | some zs' =>
        simp only [h1, h2, Option.some.injEq] at h
        subst h
        simp only [reps] at hr ⊢
        obtain ⟨y, ys', e, k1, k2⟩ := hr
        exact ⟨y, ys', e, rep_renS hA h1 k1, reps_renS hA h2 k2⟩
end
/-- All cells are plain. -/
inductive AllPl : List (Nat × List AV) → Prop where
  | nil : AllPl []
  | cons {n : Nat} {rows : List (List AV)} {r : List (Nat × List AV)} (h : ∀ x ∈ rows.flatten, plain x = true) (hs : AllPl r) : AllPl ((n, (rows ++ []).flatten) :: r)
theorem AllPl.at {nb : List (Nat × List AV)} (h : AllPl nb) : ∀ p ∈ nb, ∀ x ∈ p.2, plain x = true := by
  induction h with
  | nil => intro p hp; simp at hp
  | cons h _ ih =>
    intro p hp x hx
    rcases List.mem_cons.1 hp with rfl | hp
    · rw [List.append_nil] at hx; exact h x hx
    · exact ih p hp x hx
theorem moreNil {e : Nat} : MoreOk e [] := fun r h => by simp at h
section
variable {E : En} {ops : Array Oper} {rest : List Oper} {Q : Exit → St → Prop} {tm : List (Nat × AV)} {bl bl' : List (Nat × List AV)} {ow : List Nat} {d : Nat} {ty : TypeId} {pos : String} {af : Array Edge}
/-- A call that hands back new arrays: the caller's own from now on. -/
theorem wlnew {x : Operand} {xs : Array Operand} {ts : Array TypeId} {f : Nat} {ys : List AV} {nb nb' : List (Nat × List AV)} {r z : AV} (σ : List (Nat × Nat)) [hf : FnOk E.P f] (h : CallNew E.P f ys nb r) (hsep : sepB σ = true) (hz : renS σ r = some z) (hnb : renB σ nb = some nb') (hσ : σ.all (fun p => nb.any fun q => Nat.beq q.1 p.1) = true) (hpl' : AllPl nb) (hx : ev tm x = .v (.func (.func f) #[] #[])) (ha : LeS bl (xs.toList.map (ev tm)) ys)
    (hd : Nat.blt d E.nt = true) (hfr : (nb'.all fun p => bl.all fun q => !Nat.beq p.1 q.1) = true) (hk : WL E ops rest Q ⟨(d, z) :: tm, nb' ++ bl, ow⟩) :
    WL E ops (⟨some d, .call ⟨.value x, xs, ts⟩, ty, pos, af, none⟩ :: rest) Q ⟨tm, bl, ow⟩ := by
  intro g a w hi
  have hpl := hpl'.at
  unfold wpListIn
  rw [show Region.wanted ⟨some d, .call ⟨.value x, xs, ts⟩, ty, pos, af, none⟩ (yielded ops a.tmps) = true by simp [Region.wanted]]
  refine wpIn_of_wp (fun _ h => by cases h) ?_
  have h1 := rep_ev hi.tm x
  have h2 : reps g w (xs.toList.map (ev tm)) (xs.toList.map a.eval) := reps_map _ fun y _ => rep_ev hi.tm y
  rw [hx] at h1
  simp only [rep] at h1
  obtain ⟨fn, f1, f2, f3⟩ := hf.ok
  have f2' : fn.name ≠ "runtime.NumGoroutine" := by simpa using f2
  have f3' : fn.body ≠ none := fun e => by rw [e] at f3; simp at f3
  have hrun : (execOp a.eval ⟨some d, .call ⟨.value x, xs, ts⟩, ty, pos, af, none⟩).run E.P w = .ok (.enter f (xs.map a.eval)) w := by
    simp [execOp, resolve, Deferred.ofValue, h1, invoke, callFunc, f1, f2', f3']
  unfold Oper.wp
  rw [hrun]
  have hm := hi.mem
  refine (h (seen g w) w (xs.map a.eval) (seen_cell hm) (by rw [Array.toList_map]; exact dreps_leS hm (fun _ h => h) ha h2)).mono fun e' w' he => ?_
  obtain ⟨y, g', rfl, h3, hB, hN, hinj⟩ := he
  have heap : ∀ k, k < w.heap.size → w'.heap[k]? = w.heap[k]? := fun k hk => hB.block k hk (fun h => h)
  have hsz := hB.size
  have hIlt : ∀ b o, g.I b o → b < w.heap.size := fun b o hb => cell_lt (hm.cell b o hb)
  have keeps : Keeps g.I w w' := fun b o hb => World.cell?_of_block (a := ⟨b, o, none⟩) (heap b (hIlt b o hb))
  have hfr' : ∀ p ∈ nb', ∀ q ∈ bl, p.1 ≠ q.1 := fun p hp q hq e => by
    have := List.all_eq_true.1 (List.all_eq_true.1 hfr p hp) q hq
    rw [e] at this; simp at this
  obtain ⟨r1, r2⟩ := renB_mem hnb
  have hof : ∀ n N, (n, N) ∈ σ → ∃ cs, (n, cs) ∈ nb ∧ (N, cs) ∈ nb' := fun n N hn => by
    have := List.all_eq_true.1 hσ _ hn
    obtain ⟨⟨n', cs⟩, hq, he⟩ := List.any_eq_true.1 this
    have := Nat.eq_of_beq_eq_true he
    simp only at this
    subst this
    obtain ⟨N', k1, k2⟩ := r2 n' cs hq
    have := ((sepB_in hsep hn).2.2 n' N' k2).2 rfl
    subst this
    exact ⟨cs, hq, k1⟩
  have hnone : ∀ n N, (n, N) ∈ σ → g.m N = none := fun n N hn => by
    cases hmN : g.m N with
    | none => rfl
    | some b' =>
      obtain ⟨cs, hc⟩ := hm.key N b' hmN
      obtain ⟨ds, _, hd'⟩ := hof n N hn
      exact absurd rfl (hfr' _ hd' (N, cs) hc)
  let gc : Gh := { g with m := fun k => match inN σ k with | some n => g'.m n | none => g.m k, mt := fun k => match inN σ k with | some n => g'.mt n | none => g.mt k }
  have gm1 : ∀ n N, (n, N) ∈ σ → gc.m N = g'.m n ∧ gc.mt N = g'.mt n := fun n N hn => by
    have := (sepB_in hsep hn).1
    simp only [gc, this]
    exact ⟨trivial, trivial⟩
  have gm2 : ∀ k, inN σ k = none → gc.m k = g.m k ∧ gc.mt k = g.mt k := fun k hk => by simp only [gc, hk]; exact ⟨trivial, trivial⟩
  have hmm : ∀ k b', gc.m k = some b' → (∃ n, (n, k) ∈ σ ∧ g'.m n = some b') ∨ (inN σ k = none ∧ g.m k = some b') := fun k b' hk => by
    cases hi : inN σ k with
    | none => rw [(gm2 k hi).1] at hk; exact .inr ⟨rfl, hk⟩
    | some n => have := inN_mem hi; rw [(gm1 n k this).1] at hk; exact .inl ⟨n, this, hk⟩
  have hold : ∀ k b', g.m k = some b' → inN σ k = none := fun k b' hk => by
    cases hi : inN σ k with
    | none => rfl
    | some n => rw [hnone n k (inN_mem hi)] at hk; cases hk
  have hnew : ∀ n k b', (n, k) ∈ σ → g'.m n = some b' → w.heap.size ≤ b' ∧ b' < w'.heap.size := fun n k b' hn hk => by
    obtain ⟨cs, q1, _⟩ := hof n k hn
    obtain ⟨b, arr, p1, p2, p3, _⟩ := hN n cs q1
    rw [p1] at hk
    cases hk
    exact ⟨p2, p3⟩
  have goes : Goes g w gc w' :=
    ⟨fun _ _ h => h, keeps, fun k b' hk => by rw [(gm2 k (hold k b' hk)).1]; exact hk, fun k b' hk => (gm2 k (hold k b' hk)).2, fun k T' e' rows' y' hy' => ownRep_goes (g := g) (g' := gc) (fun _ _ h => h) keeps (fun k hk => ⟨hk, rfl⟩) (fun k b' k1 k2 => heap b' (hm.ofr k b' k1 k2).2) (fun _ _ _ _ _ h => h) hy'⟩
  have hmem : Mem E gc (nb' ++ bl) ow w' :=
    { below := ⟨hB.os.trans hm.below.os, hB.tape.trans hm.below.tape, hB.output.trans hm.below.output, Nat.le_trans hm.below.size hsz, fun k hk hM => (heap k (Nat.lt_of_lt_of_le hk hm.base)).trans (hm.below.block k hk hM)⟩
      base := Nat.le_trans hm.base hsz
      cell := fun b' o hbo => by rw [keeps b' o hbo]; exact hm.cell b' o hbo
      mfr := fun k b' hk => by
        rcases hmm k b' hk with ⟨n, k1, k2⟩ | ⟨_, k2⟩
        · obtain ⟨q1, q2⟩ := hnew n k b' k1 k2
          exact ⟨.inr (.inl (Nat.le_trans hm.base q1)), q2⟩
        · exact ⟨(hm.mfr k b' k2).1, Nat.lt_of_lt_of_le (hm.mfr k b' k2).2 hsz⟩
      ofr := fun k b' k1 k2 => ⟨(hm.ofr k b' k1 k2).1, Nat.lt_of_lt_of_le (hm.ofr k b' k1 k2).2 hsz⟩
      minj := fun k k' b' k1 k2 => by
        rcases hmm k b' k1 with ⟨n, p1, p2⟩ | ⟨_, p2⟩ <;> rcases hmm k' b' k2 with ⟨n', q1, q2⟩ | ⟨_, q2⟩
        · have := hinj n n' b' p2 q2
          subst this
          exact ((sepB_in hsep q1).2.2 n k p1).2 rfl
        · have := (hm.mfr k' _ q2).2; have := (hnew _ _ _ p1 p2).1; omega
        · have := (hm.mfr k _ p2).2; have := (hnew _ _ _ q1 q2).1; omega
        · exact hm.minj k k' b' p2 q2
      oinj := hm.oinj
      disj := fun k k' b' k1 k2 k3 => by
        rcases hmm k b' k1 with ⟨n, p1, p2⟩ | ⟨_, p2⟩
        · have := (hm.ofr k' _ k2 k3).2; have := (hnew _ _ _ p1 p2).1; omega
        · exact hm.disj k k' b' p2 k2 k3
      blk := fun k ds hk => by
        rcases List.mem_append.1 hk with hk | hk
        · obtain ⟨n, q1, q2⟩ := r1 k ds hk
          obtain ⟨b, arr, p1, p2, p3, p4, p5⟩ := hN n ds q1
          obtain ⟨m1, m2⟩ := gm1 n k q2
          exact ⟨b, arr, m1.trans p1, by rw [m2]; exact p4, reps_plain (hpl _ q1) p5, fun o ho => by have := hIlt _ o ho; omega⟩
        · obtain ⟨b', arr', q1, q2, q3, q4⟩ := hm.blk k ds hk
          exact ⟨b', arr', goes.m k b' q1, by rw [goes.mt k b' q1]; exact (heap b' (hm.mfr k b' q1).2).trans q2, reps_goes goes q3, q4⟩
      key := fun k b' hk => by
        rcases hmm k b' hk with ⟨n, k1, _⟩ | ⟨_, k2⟩
        · obtain ⟨cs, _, hc⟩ := hof n k k1; exact ⟨cs, List.mem_append_left _ hc⟩
        · obtain ⟨cs, hc⟩ := hm.key k b' k2; exact ⟨cs, List.mem_append_right _ hc⟩
      own := hm.own
      inew := hm.inew
      iold := hm.iold
      pin := fun k b' T' hp => ⟨goes.m k b' (hm.pin k b' T' hp).1, (goes.mt k b' (hm.pin k b' T' hp).1).trans (hm.pin k b' T' hp).2⟩ }
  have hz' : rep gc w' z y := rep_renS (fun n N T e l u hn hu => by
    simp only [rep] at hu ⊢
    obtain ⟨b, c, q1, q2, q3, q4, _⟩ := hu
    obtain ⟨m1, m2⟩ := gm1 n N hn
    have := (sepB_in hsep hn).2.1
    exact ⟨b, c, m1.trans q1, m2.trans q2, q3, q4, fun h => by omega⟩) hz h3
  have hi' : Inv E g ⟨tm, bl, ow⟩ a w := hi
  have := hi'.app (d := some d) (v := z) (y := y) (nb := nb') (no := []) (fun k hk => by cases hk; exact Nat.le_of_ble_eq_true hd) goes (by simpa using hmem) hz'
  exact hk gc _ w' this
end

/-! ### New arrays, seen as data -/
/-! ### A callee that marks two arrays of its caller's -/
section
variable {E : En} {ops : Array Oper} {rest : List Oper} {Q : Exit → St → Prop} {tm : List (Nat × AV)} {bl bl1 bl' : List (Nat × List AV)} {ow : List Nat} {d : Nat} {ty : TypeId} {pos : String} {af : Array Edge}
end
end Go.Eng

namespace Go.Eng
open Go

def inL : List Nat → Nat → Bool
  | [], _ => false
  | k :: r, i => bif Nat.beq k i then true else inL r i
/-- What an operation may look at: nothing if it may come behind the store. -/
def pickB (ls : List Nat) (i : Nat) (bl : List (Nat × List AV)) : List (Nat × List AV) := bif inL ls i then [] else bl
/-- The head in the order of the text: operations that only read and reckon. -/
def HS (E : En) (ops : Array Oper) (bl : List (Nat × List AV)) (ls : List Nat) : Nat → List Oper → St → (St → Prop) → Prop
  | _, [], s, K => K s
  | k, o :: rest, s, K =>
    (∃ v, QV E (pickB ls k bl) s.tm o v [] [] ∧ dstB E.nt o = true ∧
      (o.guard = none ∨ ∃ j d b, o.guard = some (j, b) ∧ (ops[j]?).bind (·.dst) = some d ∧ look s.tm d = .v (.bool b)) ∧ HS E ops bl ls (k + 1) rest (s.app o.dst v [] []) K) ∨
    (∃ j d b, o.guard = some (j, !b) ∧ (ops[j]?).bind (·.dst) = some d ∧ look s.tm d = .v (.bool b) ∧ dstB E.nt o = true ∧ HS E ops bl ls (k + 1) rest (s.app o.dst (.v undef) [] []) K)
section
variable {E : En} {ops : Array Oper} {bl0 : List (Nat × List AV)} {ls : List Nat} {k : Nat} {rest : List Oper} {K : St → Prop} {tm : List (Nat × AV)} {bl bl1 : List (Nat × List AV)} {ow : List Nat} {d : Nat} {op : Op} {ty : TypeId} {pos : String} {af : Array Edge} {gd : Option (Nat × Bool)} {v : AV} {Q : Exit → St → Prop}
theorem hs0 (h : QV E (pickB ls k bl0) tm ⟨some d, op, ty, pos, af, gd⟩ v [] []) (hg : GY ops tm gd) (hd : Nat.blt d E.nt = true) (hk : HS E ops bl0 ls (k + 1) rest ⟨(d, v) :: tm, bl, ow⟩ K) : HS E ops bl0 ls k (⟨some d, op, ty, pos, af, gd⟩ :: rest) ⟨tm, bl, ow⟩ K := by
  refine .inl ⟨v, h, hd, ?_, hk⟩
  cases gd with
  | none => exact .inl rfl
  | some p => obtain ⟨j, b⟩ := p; obtain ⟨d', h1, h2⟩ := hg; exact .inr ⟨j, d', b, rfl, h1, h2⟩
end
end Go.Eng

namespace Go.Eng
open Go

theorem stepR_scope {P : Program} {b : Frame} {a : Act} {k : List Item} {cs : List Frame} {w : World} {c : Code} : step P (lone (b.atR a (.code (.scope c) :: k)) cs w) = .next (lone (b.atR a (.code c :: .inScope c :: k)) cs w) :=
  step_lone_go (by simp [stepG, stepG.exec, Frame.atR])
theorem stepR_inScope {P : Program} {b : Frame} {a : Act} {k : List Item} {cs : List Frame} {w : World} {c : Code} : step P (lone (b.atR a (.inScope c :: k)) cs w) = .next (lone (b.atR a k) cs w) :=
  step_lone_go (by simp [stepG, stepG.exec, Frame.atR])
def scopeQ (E : En) (l : Nat) (R : Nat → St → Prop) (Q : Exit → St → Prop) : Exit → St → Prop
  | .goto l', s => l' = l ∧ ∃ n s', R n s' ∧ Weak E s s'
  | e, s => Q e s
def passQ (E : En) (l : Nat) (R : Nat → St → Prop) (n : Nat) (Q : Exit → St → Prop) : Exit → St → Prop
  | .goto l', s => l' = l ∧ ∃ n' s', n' < n ∧ R n' s' ∧ Weak E s s'
  | e, s => Q e s
theorem W_goto {E : En} {Q : Exit → St → Prop} {s : St} {l : Nat} (h : Q (.goto l) s) : W E (.goto l) Q s := fun g _ _ hi => wpIn_goto ⟨g, s, h, hi⟩
theorem W_scope {E : En} {c body : Code} {Q : Exit → St → Prop} {s : St} (l : Nat) (R : Nat → St → Prop) (hf : findLabel c l = some (.seq .skip body)) (pass : ∀ n s, R n s → W E body (passQ E l R n Q) s)
    (first : (∀ s, (∃ n s', R n s' ∧ Weak E s s') → W E body (scopeQ E l R Q) s) → W E c (scopeQ E l R Q) s) : W E (.scope c) Q s := by
  have hfirst : ∀ s, (∃ n s', R n s' ∧ Weak E s s') → W E body (scopeQ E l R Q) s := fun s ⟨n, s', hR, hw⟩ g a w hi => by
    obtain ⟨g', hi'⟩ := hw g a w hi
    refine wpIn_mono (pass n s' hR g' a w hi') fun e a' w' hq => ?_
    obtain ⟨g2, s2, h1, h2⟩ := hq
    refine ⟨g2, s2, ?_, h2⟩
    cases e with
    | goto l' => obtain ⟨k1, n', s3, _, k2, k3⟩ := h1; exact ⟨k1, n', s3, k2, k3⟩
    | _ => exact h1
  intro g a w hi b k cs hro hb hr
  have hg : gotoIn l (.inScope c :: k) = some (.code (.seq .skip body) :: .inScope c :: k) := by simp [gotoIn, hf]
  have hx : ∀ id, exitTo id (.inScope c :: k) = exitTo id k := fun id => by simp [exitTo]
  have f0 : ∀ (a : Act) (w : World) (k' : List Item), (lone (b.atR a (.inScope c :: k')) cs w).fenced E.P (fo E.rd) := fun _ _ _ => fenced_calm hb hr rfl
  have f1 : (lone (b.atR a (.code (.scope c) :: k)) cs w).fenced E.P (fo E.rd) := fenced_calm hb hr rfl
  have key : ∀ n g s a w, R n s → Inv E g s a w → ∃ e a' w', post E Q e a' w' ∧ ArrivesIn (Machine.fenced E.P (fo E.rd)) E.P (lone (b.atR a (.code (.seq .skip body) :: .inScope c :: k)) cs w) b k cs e a' w' := by
    intro n
    induction n using Nat.strongRecOn with
    | _ n ih =>
      intro g s a w hR hI
      obtain ⟨e, a₁, w₁, hq, harr⟩ := (W_seq (W_skip (pass n s hR)) : W E (.seq .skip body) _ s) g a w hI b (.inScope c :: k) cs hro hb hr
      obtain ⟨g₁, s₁, hq, hi₁⟩ := hq
      cases e with
      | normal => exact ⟨.normal, a₁, w₁, ⟨g₁, s₁, hq, hi₁⟩, StepsIn.trans harr (.one (f0 _ _ _) stepR_inScope)⟩
      | exit id => exact ⟨.exit id, a₁, w₁, ⟨g₁, s₁, hq, hi₁⟩, fun k' hk => harr.1 k' (by rw [hx]; exact hk), fun h1 hk => harr.2 h1 (by rw [hx]; exact hk)⟩
      | goto l' =>
        obtain ⟨rfl, n', s', hlt, hR', hw'⟩ := hq
        obtain ⟨g₂, hi₂⟩ := hw' g₁ a₁ w₁ hi₁
        obtain ⟨e₂, a₂, w₂, hq₂, harr₂⟩ := ih n' hlt g₂ s' a₁ w₁ hR' hi₂
        exact ⟨e₂, a₂, w₂, hq₂, .of_steps (harr.1 _ hg) harr₂⟩
      | ret => exact ⟨_, a₁, w₁, ⟨g₁, s₁, hq, hi₁⟩, harr⟩
      | panic ch => exact ⟨_, a₁, w₁, ⟨g₁, s₁, hq, hi₁⟩, harr⟩
      | outgrown => exact ⟨_, a₁, w₁, ⟨g₁, s₁, hq, hi₁⟩, harr⟩
  obtain ⟨e, a₁, w₁, hq, harr⟩ := first hfirst g a w hi b (.inScope c :: k) cs hro hb hr
  obtain ⟨g₁, s₁, hq, hi₁⟩ := hq
  cases e with
  | normal => exact ⟨.normal, a₁, w₁, ⟨g₁, s₁, hq, hi₁⟩, .head f1 stepR_scope (StepsIn.trans harr (.one (f0 _ _ _) stepR_inScope))⟩
  | exit id => exact ⟨.exit id, a₁, w₁, ⟨g₁, s₁, hq, hi₁⟩, fun k' hk => .head f1 stepR_scope (harr.1 k' (by rw [hx]; exact hk)), fun h1 hk => let ⟨k₁, h2, h3⟩ := harr.2 h1 (by rw [hx]; exact hk); ⟨k₁, h2, .head f1 stepR_scope h3⟩⟩
  | goto l' =>
    obtain ⟨rfl, n, s', hR', hw'⟩ := hq
    obtain ⟨g₂, hi₂⟩ := hw' g₁ a₁ w₁ hi₁
    obtain ⟨e₂, a₂, w₂, hq₂, harr₂⟩ := key n g₂ s' a₁ w₁ hR' hi₂
    exact ⟨e₂, a₂, w₂, hq₂, .of_steps (.head f1 stepR_scope (harr.1 _ hg)) harr₂⟩
  | ret => exact ⟨_, a₁, w₁, ⟨g₁, s₁, hq, hi₁⟩, .of_steps (.one f1 stepR_scope) harr⟩
  | panic ch => exact ⟨_, a₁, w₁, ⟨g₁, s₁, hq, hi₁⟩, .of_steps (.one f1 stepR_scope) harr⟩
  | outgrown => exact ⟨_, a₁, w₁, ⟨g₁, s₁, hq, hi₁⟩, .of_steps (.one f1 stepR_scope) harr⟩
end Go.Eng

namespace Go.Eng
open Go Go.RowKit

theorem BelowM.grown {B : Nat} {M : Nat → Prop} {w w' : World} {row : Option Nat} (hg : w.grownBy w' row) (hB : B ≤ w.heap.size) (hr : ∀ r, row = some r → B ≤ r ∨ M r) : BelowM B M w w' :=
  ⟨hg.os, hg.tape, hg.output, hg.size, fun k hk hM => hg.block k (Nat.lt_of_lt_of_le hk hB) fun e => (hr k e.symm).elim (fun h => by omega) hM⟩
/-- One object that is no cells becomes another one, in both worlds. -/
theorem BelowM.put {B : Nat} {M : Nat → Prop} {w0 w : World} (h : BelowM B M w0 w) {l : Nat} (o : Obj) (h0 : l < w0.heap.size) : BelowM B M (w0.putObj l o) (w.putObj l o) :=
  ⟨h.os, h.tape, h.output, by simpa using h.size, fun k hk hM => by
    by_cases e : k = l
    · subst e
      rw [World.putObj_heap_same h0, World.putObj_heap_same (Nat.lt_of_lt_of_le h0 h.size)]
    · rw [World.putObj_heap_other e, World.putObj_heap_other e]; exact h.block k hk hM⟩
theorem BelowM.back {B : Nat} {M : Nat → Prop} {w0 w : World} {l : Nat} {o o' : Obj} (h : BelowM B M (w0.putObj l o) w) (h0 : w0.heap[l]? = some o') : BelowM B M w0 (w.putObj l o') :=
  ⟨h.os, h.tape, h.output, by simpa using h.size, fun k hk hM => by
    have hl : l < w0.heap.size := (Array.getElem?_eq_some_iff.1 h0).1
    by_cases e : k = l
    · subst e
      rw [World.putObj_heap_same (Nat.lt_of_lt_of_le hl (by simpa using h.size)), h0]
    · rw [World.putObj_heap_other e, h.block k hk hM, World.putObj_heap_other e]⟩

/-- The call's own blocks. -/
def Ob (g : Gh) (b : Nat) : Prop := (∃ n, g.m n = some b) ∨ ∃ n, g.ow n ∧ g.om n = some b
abbrev E0 (P : Program) (w0 : World) (nt : Nat) (I0 : Nat → Nat → Prop) (rd : Option Nat) (df : List Deferred) : En := ⟨P, w0.heap.size, w0, nt, fun _ => False, [], I0, fun _ _ _ => False, rd, df⟩
section
variable {P : Program} {w0 : World} {nt : Nat} {I0 : Nat → Nat → Prop} {rd : Option Nat} {df : List Deferred} {g : Gh} {bl : List (Nat × List AV)} {ow : List Nat} {w : World}
end

/-! ### What a body must achieve, whatever follows -/
def WK (E : En) (c : Code) (K : Exit → Act → World → Prop) (s : St) : Prop := ∀ g a w, Inv E g s a w → c.wpIn (fo E.rd) 0 E.P K a w
section
variable {E : En} {x y c : Code} {K : Exit → Act → World → Prop} {s : St}
theorem WK_seqL (h : WK E x (Exit.then (fun a w => y.wpIn (fo E.rd) 0 E.P K a w) K) s) : WK E (.seq x y) K s := fun g a w hi => wpIn_seq (h g a w hi)
theorem WK_block {id : Nat} (h : WK E c (Exit.inBlock id K) s) : WK E (.block id c) K s := fun g a w hi => wpIn_block (h g a w hi)
theorem WK_weak {s' : St} (hw : Weak E s s') (h : WK E c K s') : WK E c K s := fun g a w hi => let ⟨g', hi'⟩ := hw g a w hi; h g' a w hi'
end
/-- A function's result, as its contract says it. -/
def callP (I0 : Nat → Nat → Prop) (w0 : World) (R : AV → Prop) : Ending → World → Prop := fun e w' => ∃ y r g', e = .returned y ∧ R r ∧ rep g' w' r y ∧ Ret I0 w0 g' w'
abbrev markK (P : Program) (fn : Func) (I0 : Nat → Nat → Prop) (w0 : World) (R : AV → Prop) : Exit → Act → World → Prop := bodyPostM (fo none) 0 P fn (callP I0 w0 R)
theorem ret_of {P : Program} {w0 : World} {nt : Nat} {I0 : Nat → Nat → Prop} {rd : Option Nat} {df : List Deferred} {g : Gh} {s : St} {a : Act} {w : World} {fn : Func} {xs : List AV} {R : AV → Prop} (hi : Inv (E0 P w0 nt I0 rd df) g s a w) (h1 : resA P s fn.results.toList xs) (h2 : R (oneA xs)) (h3 : refs [] s.ow (oneA xs) = true) :
    ∃ v, (results fn a.tmps).run P w = .ok v w ∧ callP I0 w0 R (.returned v) w := by
  obtain ⟨y, k1, k2⟩ := run_results hi h1
  let g2 : Gh := { g with m := fun _ => none }
  refine ⟨y, k1, y, oneA xs, g2, rfl, h2, rep_refs (g := g) (g' := g2) rfl (fun n b hn => by simp at hn) rfl (fun n _ h => ⟨h, rfl⟩) h3 k2, ?_⟩
  exact ⟨⟨hi.mem.below.os, hi.mem.below.tape, hi.mem.below.output, hi.mem.below.size, hi.mem.below.block⟩, hi.mem.iold, fun b o h => (hi.mem.inew b o h).imp id (fun h => h.resolve_right (fun h => h)), hi.mem.cell, fun n b h1 h2 => ⟨(hi.mem.ofr n b h1 h2).1.resolve_right (fun h => h), (hi.mem.ofr n b h1 h2).2⟩, hi.mem.oinj⟩
/-- A return ahead of any loop. -/
theorem mark_ret {P : Program} {w0 : World} {nt : Nat} {I0 : Nat → Nat → Prop} {fn : Func} {rs : Array ResultVar} {R : AV → Prop} {s : St} (hrs : fn.results = rs) (h : retQ (E0 P w0 nt I0 none []) rs.toList R .ret s) : ∀ g a w, Inv (E0 P w0 nt I0 none []) g s a w → markK P fn I0 w0 R .ret a w := by
  subst hrs
  intro g a w hi
  obtain ⟨s1, hw, xs, h1, h2, h3⟩ := h
  obtain ⟨g1, hi1⟩ := hw g a w hi
  have hd := hi1.de
  show LeavesInM _ _ _ _ _ _ a.defers .returning w
  rw [hd]
  exact ret_of hi1 h1 h2 h3
theorem callOk_of_WK {P : Program} {f nt : Nat} {fn : Func} {rs : Array ResultVar} {c : Code} {args : List AV} {tm : List (Nat × AV)} {R : AV → Prop} (hf : P.funcs[f]? = some fn) (hnt : fn.ntmps = nt) (hrs : fn.results = rs) (hb : fn.body = some c) (hn : Nat.ble args.length nt = true)
    (htm : ((args.zipIdx 0).map fun p => (p.2, p.1)) = tm) (h : ∀ (w0 : World) (I0 : Nat → Nat → Prop) (fn : Func), fn.results = rs → WK (E0 P w0 nt I0 none []) c (markK P fn I0 w0 R) ⟨tm, [], []⟩) : CallOk P f args R := by
  subst hnt; subst htm
  intro I w vals hI hargs
  have hn' := Nat.le_of_ble_eq_true hn
  let g : Gh := ⟨I, fun _ => none, fun _ => none, fun _ => False, fun _ => 0⟩
  have hlen := dreps_length hargs
  have hargs' : reps g w args vals.toList := reps_of_dreps hargs
  refine callsIn_wide.1 (callsIn_of_wp_marks (F := fo none) (n := 0) hf hb trivial ?_ rfl)
  refine h w I fn hrs g _ w ⟨⟨BelowM.refl _ _ _, Nat.le_refl _, hI, fun n b h => by simp [g] at h, fun n b h => by simp [g] at h, fun n n' b h => by simp [g] at h, fun n n' b h => by simp [g] at h, fun n n' b h => by simp [g] at h,
    fun n cs h => by simp at h, fun n b h => by simp [g] at h, fun n h => by simp [g] at h, fun b o h => .inl h, fun b o h => h, fun n b T h => h.elim⟩, fun t => ?_, rfl, ?_⟩
  · simp only [look_zip, Nat.zero_le, if_true, Nat.sub_zero]
    rcases Nat.lt_or_ge t args.length with h1 | h1
    · obtain ⟨y, hy, hr⟩ := reps_get hargs' (List.getElem?_eq_getElem h1)
      have : t < vals.size := by simpa [← hlen] using h1
      have hy' : vals[t] = y := by simpa [this] using hy
      simp only [List.getD_eq_getElem?_getD, List.getElem?_eq_getElem h1, Option.getD_some]
      simp only [Array.getD_eq_getD_getElem?, Array.getElem?_append_left this, Array.getElem?_eq_getElem this, Option.getD_some, hy']
      exact hr
    · simp only [List.getD_eq_getElem?_getD, List.getElem?_eq_none h1, Option.getD_none, rep]
  · have : vals.size = args.length := by simpa using hlen
    simp; omega

/-! ### The loop -/
end Go.Eng
