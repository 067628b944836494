/- My walking engine, part 2: abstract values of Go, and the rules of a walk over them. No program in sight. -/
import Derived.Test.YtkaffcdjhbaifaaGreatZ1
namespace Go.Eng
open Go

theorem splice_row : ∀ {rows : List (List AV)} {e j : Nat} {r : List AV}, (∀ r ∈ rows, r.length = e) → r.length = e → j < rows.length → splice rows.flatten (j * e) r = (rows.set j r).flatten
  | [], e, j, r, _, _, h => by simp at h
  | r0 :: rows, e, 0, r, hl, hr, _ => by
    have h0 : r0.length = e := hl r0 (by simp)
    simp [splice, hr, ← h0]
  | r0 :: rows, e, j + 1, r, hl, hr, h => by
    have h0 : r0.length = e := hl r0 (by simp)
    have ih := splice_row (rows := rows) (e := e) (j := j) (r := r) (fun r' h' => hl r' (by simp [h'])) hr (by simpa using h)
    simp only [splice] at ih ⊢
    simp only [List.flatten_cons, List.set_cons_succ, ← ih]
    rw [Nat.add_mul, Nat.one_mul, List.take_append, List.drop_append, hr]
    rw [List.take_of_length_le (by omega : r0.length ≤ j * e + e), List.drop_of_length_le (by omega : r0.length ≤ j * e + e + e)]
    simp only [h0, List.append_assoc, List.nil_append]
    rw [show j * e + e - e = j * e by omega, show j * e + e + e - e = j * e + e by omega]
theorem drop_rows : ∀ {rows : List (List AV)} {e j : Nat} {r : List AV}, (∀ r ∈ rows, r.length = e) → rows[j]? = some r → ∃ rest, rows.flatten.drop (j * e) = r ++ rest
  | [], e, j, r, _, h => by simp at h
  | r0 :: rows, e, 0, r, _, h => by
    simp at h; subst h
    exact ⟨rows.flatten, by simp⟩
  | r0 :: rows, e, j + 1, r, hl, h => by
    have h0 : r0.length = e := hl r0 (by simp)
    obtain ⟨rest, hr⟩ := drop_rows (rows := rows) (fun r' h' => hl r' (by simp [h'])) (by simpa using h)
    refine ⟨rest, ?_⟩
    rw [List.flatten_cons, List.drop_append, List.drop_of_length_le (by rw [Nat.add_mul]; omega), Nat.add_mul, h0, show j * e + 1 * e - e = j * e by omega]
    simpa using hr

section
variable {E : En} {bl : List (Nat × List AV)} {tm : List (Nat × AV)} {d : Option Tmp} {ty : TypeId} {pos : String} {af : Array Edge} {gd : Option (Nat × Bool)}
theorem QV_makeA {t n : Nat} {x y : Operand} {T e by_ : Nat} {z : List Value} {zc : List AV} {k k' : IntKind} {i i' : Int} {len : Nat} [hs : ZSlOk E.P t T e by_ z] [hzc : ZcOk E.P T zc] (hx : ev tm x = .v (.int k i)) (hy : ev tm y = .v (.int k' i')) (hi : i = len) (hi' : i' = len) (hl : len ≤ 1048576) (hb : Nat.ble by_ 1048576 = true) :
    QV E bl tm ⟨d, .makeSlice t x y, ty, pos, af, gd⟩ (.arr n T e len) [(n, (List.replicate len zc).flatten)] [] := by
  intro g w ρ bl' ow' hm _ hf _ hop
  have h1 := hop x (by simp [Op.operands])
  have h2 := hop y (by simp [Op.operands])
  rw [hx] at h1; rw [hy] at h2
  simp only [rep] at h1 h2
  subst hi; subst hi'
  obtain ⟨in0, iz, i1, i2, i3, i4, i5⟩ := hs.sl.info
  obtain ⟨zv, hz, rfl⟩ := hs.zero
  obtain ⟨z', hz', hzc'⟩ := hzc.ok
  have hb := Nat.le_of_ble_eq_true hb
  have hzv : zv = iz := by
    have := hz w
    simpa [zeroValue, typeInfo, i1, i2] using this.symm
  subst hzv
  have hzv' : z' = zv := by
    have := (hz'.zero w).symm.trans (hz w)
    simpa using this
  subst hzv'
  have hmul : by_ * len ≤ 1048576 * 1048576 := Nat.mul_le_mul hb hl
  have hr := run_make (P := E.P) w t T in0 z' hs.sl.und i1 i2 k k' len len (by omega) (Int.le_refl _) (by
    rw [i4]
    have : ((by_ * len : Nat) : Int) ≤ 281474976710656 := by omega
    rwa [Int.natCast_mul] at this) (by omega)
  simp only [Int.toNat_natCast] at hr
  have hcells : (madeCells z'.cells (len * in0.size)).toList = (List.replicate len z'.cells.toList).flatten := by
    have := range_zero z'.cells len
    rw [i3, ← i5]
    simpa [madeCells] using this
  have hreps : reps g w (List.replicate len zc).flatten (madeCells z'.cells (len * in0.size)).toList := by
    rw [hcells]
    have : (List.replicate len zc).flatten = ((List.replicate len z'.cells.toList).flatten).map AV.v := by rw [← hzc']; simp [List.map_flatten]
    rw [this]
    exact reps_lits _
  have hrun : (execOp ρ ⟨d, .makeSlice t x y, ty, pos, af, gd⟩).run E.P w = .ok (.value (.slice (some ⟨w.heap.size, 0, none⟩) len len)) (w.alloc (.cells (madeCells z'.cells (len * in0.size)) T)) := by
    simp only [execOp, h1, h2, Sem.run_bind, hr, Result.andThen_ok, Sem.run_pure]
  rw [hrun]
  obtain ⟨g', m1, m2, m3, m4⟩ := hm.newBlock n (fun q hq => hf (n, (List.replicate len zc).flatten) (by simp) q hq) _ _ T hreps
  refine ⟨g', m1, m2, ?_⟩
  simp only [rep]
  exact ⟨_, len, m3, m4, rfl, Nat.le_refl _, fun _ => rfl, fun _ => ⟨by unfold maxLen; omega, _, _, alloc_new w _, by
    have := congrArg List.length hcells
    simp at this
    rw [this, i5]⟩⟩
theorem QV_indexA {t : Nat} {x ix : Operand} {n T' T e by_ len : Nat} {k : IntKind} {i : Int} {j : Nat} [hs : SlOk E.P t T e by_] (hx : ev tm x = .arr n T' e len) (hi : ev tm ix = .v (.int k i)) (hj : i = j) (hl : j < len) :
    QV E bl tm ⟨d, .indexAddr t x ix, ty, pos, af, gd⟩ (.ptr n (j * e)) [] [] :=
  QV_pure fun g w ρ hop => by
    have h1 := hop x (by simp [Op.operands])
    have h2 := hop ix (by simp [Op.operands])
    rw [hx] at h1; rw [hi] at h2
    simp only [rep] at h1 h2
    subst hj
    obtain ⟨b, _, h3, _, h4, _⟩ := h1
    obtain ⟨in0, z, hi1, hi2, hi3, hi4, hi5⟩ := hs.info
    have hsz : (sizeOf T).run E.P w = .ok e w := by simp [sizeOf, typeInfo, hi1, hi3]
    refine ⟨.pointer (some ⟨b, 0 + j * e, none⟩), ?_, ?_⟩
    · simp [execOp, h2, h4, Instr.indexAt, asIntOf, run_underlying hs.und, hsz, addr_add, hl]
    · simp only [rep]
      exact ⟨b, h3, by rw [Nat.zero_add]⟩
theorem QV_lenA {t : Nat} {x : Operand} {n T' T e e' by_ len : Nat} [hs : SlOk E.P t T e' by_] (hx : ev tm x = .arr n T' e len) :
    QV E bl tm ⟨d, .call ⟨.builtin .len, #[x], #[t]⟩, ty, pos, af, gd⟩ (.v (.int .i64 len)) [] [] :=
  QV_pure fun g w ρ hop => by
    have h1 := hop x (by simp [Op.operands, Call.operands])
    rw [hx] at h1
    simp only [rep] at h1
    obtain ⟨b, _, _, _, h4, _⟩ := h1
    exact ⟨_, by simp [execOp, resolve, invoke, builtin, Builtin.len_, h4, run_underlying hs.und, goInt]; rfl, by simp only [rep]⟩
theorem q_loadA {t n j e o sz : Nat} {x : Operand} {ag : Bool} {rows : List (List AV)} {r ds : List AV} {v : AV} [ht : TyOk E.P t ag sz] (hx : ev tm x = .ptr n (j * e + o)) (hb : lookB bl n = some rows.flatten) (hl : ∀ r ∈ rows, r.length = e) (hr : rows[j]? = some r) (hd : dropO o r = some ds) (h : loadO ag sz ds = some v) :
    QV E bl tm ⟨d, .load t x, ty, pos, af, gd⟩ v [] [] := by
  obtain ⟨rest, hrest⟩ := drop_rows hl hr
  refine QV_load hx hb ?_
  have h' := loadO_eq h
  have e1 := dropO_eq hd
  have hol : o ≤ r.length := by
    have : ∀ (k : Nat) (l r : List AV), dropO k l = some r → k ≤ l.length := by
      intro k
      induction k with
      | zero => intro l r _; omega
      | succ k ih =>
        intro l r h
        cases l with
        | nil => simp [dropO] at h
        | cons x l => simp only [dropO] at h; have := ih l r h; simp; omega
    exact this o r ds hd
  rw [← List.drop_drop, hrest, List.drop_append_of_le_length hol, e1]
  cases ag
  · simp only [aload, cond_false] at h' ⊢
    cases ds with
    | nil => simp at h'
    | cons x ds => simpa using h'
  · simp only [aload, cond_true] at h' ⊢
    cases hb' : Nat.ble sz ds.length
    · rw [hb'] at h'; cases h'
    · rw [hb'] at h'
      have hle := Nat.le_of_ble_eq_true hb'
      rw [show Nat.ble sz (ds ++ rest).length = true from Nat.ble_eq_true_of_le (by simp; omega)]
      simp only [cond_true] at h' ⊢
      rw [List.take_append_of_le_length hle]
      exact h'
end

section
variable {E : En} {ops : Array Oper} {rest : List Oper} {Q : Exit → St → Prop} {tm : List (Nat × AV)} {bl bl' : List (Nat × List AV)} {ow : List Nat} {ty : TypeId} {pos : String} {af : Array Edge} {v : AV}
theorem wstA {x y : Operand} {t n j e : Nat} {ag : Bool} {r : List AV} {rows : List (List AV)} [ht : TyOk E.P t ag e] (hx : ev tm x = .ptr n (j * e)) (hy : evO tm y = some v) (hb : lookB bl n = some rows.flatten) (hro : n ∉ E.ron)
    (hc : isC v = true) (ha : acellsO v = some r) (hall : r.all isCell = true) (hr : Nat.beq r.length e = true) (hj : j < rows.length) (hl : ∀ r ∈ rows, r.length = e) (hs : setBO bl n (rows.set j r).flatten = some bl')
    (hk : WL E ops rest Q ⟨tm, bl', ow⟩) : WL E ops (⟨none, .store t x y, ty, pos, af, none⟩ :: rest) Q ⟨tm, bl, ow⟩ := by
  have e1 := acellsO_eq ha
  have e2 := Nat.eq_of_beq_eq_true hr
  have h1 : j * e + e ≤ rows.flatten.length := by
    rw [flatten_length hl, ← Nat.succ_mul]
    exact Nat.mul_le_mul_right _ hj
  refine WL_t rfl (TV_store rfl hx (evO_ev hy) hb hro hc (by rw [e1]; exact hall) (by rw [e1]; exact e2) h1) ?_
  simp only [St.app, List.nil_append]
  rw [e1, splice_row hl e2 hj, setBO_eq hs]
  exact hk
theorem wstP {x y : Operand} {t n j e o sz : Nat} {ag : Bool} {r0 r cs : List AV} {rows : List (List AV)} [ht : TyOk E.P t ag sz] (hx : ev tm x = .ptr n (j * e + o)) (hy : evO tm y = some v) (hb : lookB bl n = some rows.flatten) (hro : n ∉ E.ron)
    (hc : isC v = true) (ha : acellsO v = some cs) (hall : cs.all isCell = true) (hcs : Nat.beq cs.length sz = true) (hr0 : rows[j]? = some r0) (hp : putO r0 o cs = some r) (hl : ∀ r ∈ rows, r.length = e) (hs : setBO bl n (rows.set j r).flatten = some bl')
    (hk : WL E ops rest Q ⟨tm, bl', ow⟩) : WL E ops (⟨none, .store t x y, ty, pos, af, none⟩ :: rest) Q ⟨tm, bl, ow⟩ := by
  have e1 := acellsO_eq ha
  have e2 := Nat.eq_of_beq_eq_true hcs
  obtain ⟨p1, p2⟩ := putO_eq hp
  have hj : j < rows.length := (List.getElem?_eq_some_iff.1 hr0).1
  have hr0l : r0.length = e := hl r0 (List.mem_of_getElem? hr0)
  have h1 : j * e + o + sz ≤ rows.flatten.length := by
    rw [flatten_length hl]
    have : (j + 1) * e ≤ rows.length * e := Nat.mul_le_mul_right _ hj
    rw [Nat.succ_mul] at this
    omega
  refine WL_t rfl (TV_store rfl hx (evO_ev hy) hb hro hc (by rw [e1]; exact hall) (by rw [e1]; exact e2) h1) ?_
  simp only [St.app, List.nil_append]
  have hsp : splice rows.flatten (j * e + o) (acells v) = (rows.set j r).flatten := by
    have hrl : r.length = e := by rw [← p2]; simp [splice]; omega
    rw [← splice_row hl hrl hj, ← p2, e1]
    obtain ⟨rest', hrest⟩ := drop_rows hl hr0
    have hjl : j * e ≤ rows.flatten.length := by omega
    have htk : rows.flatten.take (j * e + o) = rows.flatten.take (j * e) ++ r0.take o := by
      rw [List.take_add, hrest, List.take_append_of_le_length (by omega)]
    have hdr : rows.flatten.drop (j * e + o + cs.length) = r0.drop (o + cs.length) ++ rest' := by
      rw [show j * e + o + cs.length = j * e + (o + cs.length) by omega, ← List.drop_drop, hrest, List.drop_append_of_le_length (by omega)]
    have hdr2 : rows.flatten.drop (j * e + e) = rest' := by
      rw [← List.drop_drop, hrest, ← hr0l, List.drop_left]
    have hlen : (r0.take o ++ (cs ++ r0.drop (o + cs.length))).length = e := by simp; omega
    simp only [splice, htk, hdr, hlen, hdr2]
    simp [List.append_assoc]
  rw [hsp, setBO_eq hs]
  exact hk
end

mutual
def renO (k : Nat) : AV → Option AV
  | .agg cs => match renOL k cs with | some r => some (.agg r) | none => none
  | .tup cs => match renOL k cs with | some r => some (.tup r) | none => none
  | .own n T e rows => some (.own (k + n) T e rows)
  | x => some x
def renOL (k : Nat) : List AV → Option (List AV)
  | [] => some []
  | x :: xs => match renO k x with
    | none => none
    | some y => match renOL k xs with | some r => some (y :: r) | none => none
end
mutual
theorem renO_eq {k : Nat} : ∀ (x : AV), renO k x = some (ren k x)
  | .agg cs => by simp only [renO, renOL_eq cs, ren]
  | .tup cs => by simp only [renO, renOL_eq cs, ren]
  | .own n T e rows => by simp only [renO, ren]
  | .top => by simp only [renO, ren]
  | .v x => by simp only [renO, ren]
  | .sl e rows => by simp only [renO, ren]
  | .ptr n o => by simp only [renO, ren]
  | .eptr cs => by simp only [renO, ren]
  | .fn f a b => by simp only [renO, ren]
  | .arr n T e l => by simp only [renO, ren]
theorem renOL_eq {k : Nat} : ∀ (xs : List AV), renOL k xs = some (renL k xs)
  | [] => by simp only [renOL, renL]
  | x :: xs => by simp only [renOL, renO_eq x, renOL_eq xs, renL]
end
section
variable {E : En} {bl : List (Nat × List AV)} {tm : List (Nat × AV)} {d : Option Tmp} {ty : TypeId} {pos : String} {af : Array Edge} {gd : Option (Nat × Bool)}
theorem q_call {x : Operand} {xs : Array Operand} {ts : Array TypeId} {f : Nat} {ys : List AV} {r v : AV} [hf : FnOk E.P f] (h : CallOk E.P f ys (fun r' => r' = r)) (hx : ev tm x = .v (.func (.func f) #[] #[])) (ha : LeDs (xs.toList.map (ev tm)) ys) (ho : ownsIn [] r = true) (hv : renO 0 r = some v) :
    QV E bl tm ⟨d, .call ⟨.value x, xs, ts⟩, ty, pos, af, gd⟩ v [] [] := by
  have := QV_call (E := E) (bl := bl) (tm := tm) (d := d) (ty := ty) (pos := pos) (af := af) (gd := gd) (ts := ts) 0 [] h hx ha ho
  rw [renO_eq] at hv
  rw [← Option.some.inj hv]; exact this
theorem q_call1 {x : Operand} {xs : Array Operand} {ts : Array TypeId} {f : Nat} {ys : List AV} {r v : AV} (k n : Nat) [hf : FnOk E.P f] (h : CallOk E.P f ys (fun r' => r' = r)) (hx : ev tm x = .v (.func (.func f) #[] #[])) (ha : LeDs (xs.toList.map (ev tm)) ys) (ho : ownsIn [n] r = true) (hv : renO k r = some v) :
    QV E bl tm ⟨d, .call ⟨.value x, xs, ts⟩, ty, pos, af, gd⟩ v [] [k + n] := by
  have := QV_call (E := E) (bl := bl) (tm := tm) (d := d) (ty := ty) (pos := pos) (af := af) (gd := gd) (ts := ts) k [n] h hx ha ho
  rw [renO_eq] at hv
  rw [← Option.some.inj hv]; exact this
end
section
variable {E : En} {ops : Array Oper} {rest : List Oper} {Q : Exit → St → Prop} {K : St → Prop} {tm : List (Nat × AV)} {bl bl0 : List (Nat × List AV)} {ow : List Nat} {d n : Nat} {op : Op} {ty : TypeId} {pos : String} {af : Array Edge} {gd : Option (Nat × Bool)} {v : AV}
theorem wln1 (h : QV E bl tm ⟨some d, op, ty, pos, af, gd⟩ v [] [n]) (hg : GY ops tm gd) (hd : Nat.blt d E.nt = true) (hf : freshB [] [n] ⟨tm, bl, ow⟩ = true) (hk : WL E ops rest Q ⟨(d, v) :: tm, bl, n :: ow⟩) : WL E ops (⟨some d, op, ty, pos, af, gd⟩ :: rest) Q ⟨tm, bl, ow⟩ := wl_gy h hg hd hf hk
theorem hwn1 (h : QV E bl0 tm ⟨some d, op, ty, pos, af, gd⟩ v [] [n]) (hg : GY ops tm gd) (hd : Nat.blt d E.nt = true) (hf : freshB [] [n] ⟨tm, bl, ow⟩ = true) (hk : HW E ops bl0 rest ⟨(d, v) :: tm, bl, n :: ow⟩ K) : HW E ops bl0 (⟨some d, op, ty, pos, af, gd⟩ :: rest) ⟨tm, bl, ow⟩ K := hw_gy h hg hd hf (by simp [namesB]) hk
end

theorem le_freeze {g g' : Gh} {w : World} {n T e : Nat} {rows : List (List AV)} {b : Nat} {arr : Array Value} (hn : n < 1000000) (hm : g.m n = some b) (how : g'.ow n) (hom : g'.om n = some b) (hh : w.heap[b]? = some (.cells arr (g.mt n) (0, 0))) (hr : dreps g'.I w rows.flatten arr.toList) (hl : ∀ r ∈ rows, r.length = e)
    (hmax : rows.length ≤ maxLen) (hI1 : ∀ o, o < rows.length * e → g'.I b o) (hI2 : ∀ o, rows.length * e ≤ o → ¬ g'.I b o) {y : Value} (hy : rep g w (.arr n T e rows.length) y) : ownRep g' w n T e rows y := by
  simp only [rep] at hy
  obtain ⟨b', c', h1, h2, rfl, _, h3⟩ := hy
  have := h3.1 hn
  subst this
  have : b' = b := by rw [hm] at h1; exact (Option.some.inj h1).symm
  subst this
  have hasz : arr.size = rows.length * e := by
    have := dreps_length hr
    rw [flatten_length hl] at this
    simpa using this
  refine ⟨how, by rw [hom]; rfl, arr.toList, ⟨by simpa using hasz, .inr ⟨b', rows.length, arr, rfl, Nat.zero_le _, by rw [← h2]; exact hh, Nat.le_refl _, hmax, hasz, List.take_of_length_le (by simp [hasz])⟩⟩, hr, hl, fun c hc => ?_⟩
  rw [hom] at hc
  cases hc
  exact ⟨hI1, hI2⟩

def FLe (n T e : Nat) (rows : List (List AV)) (x v : AV) : Prop := (x = .arr n T e rows.length ∧ v = .own n T e rows) ∨ Le [] x v
def FPick (n T e : Nat) (rows : List (List AV)) (tm : List (Nat × AV)) : List (Nat × AV) → Prop
  | [] => True
  | (t, v) :: r => FLe n T e rows (look tm t) v ∧ FPick n T e rows tm r
def noNil : AV → AV → Bool
  | .v (.slice none 0 0), .own .. => false
  | _, _ => true
def noNils (tm : List (Nat × AV)) : List (Nat × AV) → Bool
  | [] => true
  | (t, v) :: r => noNil (look tm t) v && noNils tm r
theorem weak_freeze {E : En} {s s' : St} (hE : E.ron = [] ∧ ∀ b, ¬ E.M b) (n T e : Nat) (rows : List (List AV)) (hb : lookB s.bl n = some rows.flatten) (hl : ∀ r ∈ rows, r.length = e) (hmax : rows.length ≤ 1048576) (hD : ∀ x ∈ rows.flatten, toD x = x) (hn : n ∉ s.ow)
    (h1 : FPick n T e rows s.tm s'.tm) (h2 : ∀ p ∈ s'.bl, p ∈ s.bl) (h3 : refsL (s'.bl.map (·.1)) s'.ow (s'.tm.map (·.2)) = true) (h3' : RefsB (s'.bl.map (·.1)) s.ow s'.bl) (h4 : ∀ k ∈ s'.ow, k = n ∨ k ∈ s.ow) (h5 : ∀ k ∈ s.ow, k ∈ s'.ow) (h6 : noNils s.tm s'.tm = true) (hnb : (s'.bl.map (·.1)).any (Nat.beq n) = false) (hlt : Nat.blt n 1000000 = true) (hpin : ∀ n b T, ¬ E.pin n b T) : Weak E s s' := by
  intro g a w hi
  obtain ⟨b, arr, b1, b2, b3, b4⟩ := hi.mem.blk n _ (lookB_mem hb)
  have hno : ¬ g.ow n := fun h => hn (hi.mem.own n h)
  have hnk : n ∉ s'.bl.map (·.1) := fun h => by
    rw [List.any_eq_true.2 ⟨n, h, by simp⟩] at hnb; cases hnb
  have hdr : dreps g.I w rows.flatten arr.toList := by
    have := dreps_toD b3
    have e1 : rows.flatten.map toD = rows.flatten := by
      have : ∀ l : List AV, (∀ x ∈ l, toD x = x) → l.map toD = l := by
        intro l
        induction l with
        | nil => intro _; rfl
        | cons x l ih => intro h; simp [h x (by simp), ih fun y hy => h y (by simp [hy])]
      exact this _ hD
    rwa [e1] at this
  have hasz : arr.size = rows.length * e := by
    have := dreps_length hdr
    rw [flatten_length hl] at this
    simpa using this
  let g' : Gh := { I := fun c o => g.I c o ∨ (c = b ∧ o < rows.length * e), m := fun k => if k ∈ s'.bl.map (·.1) then g.m k else none, om := fun k => if k = n then some b else g.om k, ow := fun k => k = n ∧ k ∈ s'.ow ∨ g.ow k, mt := g.mt }
  have hmm : ∀ k c, g'.m k = some c → k ∈ s'.bl.map (·.1) ∧ g.m k = some c := fun k c h => by
    by_cases e : k ∈ s'.bl.map (·.1)
    · exact ⟨e, by simpa only [g', e, if_true] using h⟩
    · simp only [g', e, if_false] at h; cases h
  have hoo : ∀ k c, g'.ow k → g'.om k = some c → (k = n ∧ c = b) ∨ (g.ow k ∧ g.om k = some c ∧ k ≠ n) := fun k c h1 h2 => by
    by_cases e : k = n
    · simp only [g', e, if_true, Option.some.injEq] at h2; exact .inl ⟨e, h2.symm⟩
    · rcases h1 with ⟨h1, _⟩ | h1
      · exact absurd h1 e
      · exact .inr ⟨h1, by simpa only [g', e, if_false] using h2, e⟩
  -- what refers to neither the array nor a dropped block reads on
  have keepI : ∀ c o, g.I c o → g'.I c o := fun c o h => .inl h
  have goes : Goes { g with m := g'.m } w g' w := by
    refine ⟨keepI, fun _ _ _ => rfl, fun k c h => h, fun _ _ _ => rfl, fun k T' e' rows' y hy => ?_, fun _ _ _ _ _ h => h⟩
    have hk : k ≠ n := fun e => hno (e ▸ hy.1)
    refine ownRep_goes (g := { g with m := g'.m }) (g' := g') keepI (fun _ _ _ => rfl) (fun j hj => ⟨.inr hj, ?_⟩) (fun _ _ _ _ => rfl) (fun j c o hj hc hI => ?_) hy
    · have : j ≠ n := fun e => hno (e ▸ hj)
      simp only [g', this, if_false]
    · rcases hI with hI | ⟨rfl, _⟩
      · exact hI
      · exact (hi.mem.disj n j c b1 hj hc).elim
  have refsRep : ∀ (os : List Nat) (x : AV) (y : Value), refs (s'.bl.map (·.1)) os x = true → rep g w x y → rep g' w x y := fun os x y hr h =>
    rep_goes goes (rep_refs (g := g) (g' := { g with m := g'.m }) (ks := s'.bl.map (·.1)) (os := os) rfl (fun k c hk hc => by simp only [g', hk, if_true]; exact hc) rfl (fun _ _ h => ⟨h, rfl⟩) hr h)
  have refsReps : ∀ (os : List Nat) (xs : List AV) (ys : List Value), refsL (s'.bl.map (·.1)) os xs = true → reps g w xs ys → reps g' w xs ys := by
    intro os xs
    induction xs with
    | nil => intro ys _ h; simpa [reps] using h
    | cons x xs ih =>
      intro ys hr h
      simp only [refsL, Bool.and_eq_true] at hr
      simp only [reps] at h ⊢
      obtain ⟨y, zs, e, k1, k2⟩ := h
      exact ⟨y, zs, e, refsRep os x y hr.1 k1, ih zs hr.2 k2⟩
  have hbB : E.B ≤ b := by
    rcases (hi.mem.mfr n b b1).1 with h | h | h
    · rw [hE.1] at h; simp at h
    · exact h
    · exact absurd h (hE.2 b)
  refine ⟨g', ⟨⟨hi.mem.below, hi.mem.base, fun c o hc => ?_, fun k c h => hi.mem.mfr k c (hmm k c h).2, fun k c k1 k2 => ?_, fun k k' c k1 k2 => hi.mem.minj k k' c (hmm k c k1).2 (hmm k' c k2).2, fun k k' c k1 k2 k3 k4 => ?_, fun k k' c k1 k2 k3 => ?_, fun k cs h => ?_, fun k c h => ?_, fun k h => ?_, fun c o hc => ?_, fun c o hc => .inl (hi.mem.iold c o hc), fun k c T h => absurd h (hpin k c T)⟩, fun t => ?_, hi.de, hi.sz⟩⟩
  · rcases hc with hc | ⟨rfl, ho⟩
    · exact hi.mem.cell c o hc
    · rw [cell_of_heap b2]; simp [hasz, ho]
  · rcases hoo k c k1 k2 with ⟨rfl, rfl⟩ | ⟨h7, h8, _⟩
    · exact ⟨.inl hbB, (hi.mem.mfr k c b1).2⟩
    · exact hi.mem.ofr k c h7 h8
  · rcases hoo k c k1 k3 with ⟨rfl, rfl⟩ | ⟨h7, h8, _⟩ <;> rcases hoo k' c k2 k4 with ⟨h9, h10⟩ | ⟨h9, h10, _⟩
    · exact h9.symm
    · exact (hi.mem.disj k k' c b1 h9 h10).elim
    · subst h10; exact (hi.mem.disj n k c b1 h7 h8).elim
    · exact hi.mem.oinj k k' c h7 h9 h8 h10
  · rcases hoo k' c k2 k3 with ⟨rfl, rfl⟩ | ⟨h7, h8, _⟩
    · have := hi.mem.minj k k' c (hmm k c k1).2 b1
      subst this
      exact hnk (hmm k c k1).1
    · exact hi.mem.disj k k' c (hmm k c k1).2 h7 h8
  · obtain ⟨c, ar, k1, k2, k3, k4⟩ := hi.mem.blk k cs (h2 _ h)
    have hk : k ∈ s'.bl.map (·.1) := List.mem_map.2 ⟨_, h, rfl⟩
    refine ⟨c, ar, by simp only [g', hk, if_true]; exact k1, k2, refsReps s.ow cs _ (refsB_mem h3' _ h) k3, fun o ho => ?_⟩
    rcases ho with ho | ⟨rfl, _⟩
    · exact k4 o ho
    · have := hi.mem.minj k n c k1 b1
      subst this
      exact hnk hk
  · obtain ⟨h7, _⟩ := hmm k c h
    obtain ⟨p, hp, rfl⟩ := List.mem_map.1 h7
    exact ⟨p.2, hp⟩
  · rcases h with ⟨_, h⟩ | h
    · exact h
    · exact h5 k (hi.mem.own k h)
  · rcases hc with hc | ⟨rfl, _⟩
    · exact hi.mem.inew c o hc
    · exact .inr (.inl hbB)
  · have pick : ∀ (l : List (Nat × AV)), FPick n T e rows s.tm l → noNils s.tm l = true → look l t = .top ∨ (FLe n T e rows (look s.tm t) (look l t) ∧ noNil (look s.tm t) (look l t) = true) := by
      intro l
      induction l with
      | nil => intro _ _; exact .inl rfl
      | cons p l ih =>
        intro hp hn'
        obtain ⟨k, v⟩ := p
        simp only [FPick] at hp
        simp only [noNils, Bool.and_eq_true] at hn'
        simp only [look]
        cases hb' : Nat.beq k t
        · exact ih hp.2 hn'.2
        · have := Nat.eq_of_beq_eq_true hb'
          subst this
          exact .inr ⟨hp.1, hn'.1⟩
    rcases pick _ h1 h6 with h | ⟨h, h'⟩
    · rw [h]; simp [rep]
    · rcases look_mem (tm := s'.tm) (t := t) with h7 | h7
      · rw [h7]; simp [rep]
      · have hr := refsL_mem h3 h7
        rcases h with ⟨e1, e2⟩ | h
        · rw [e2] at hr ⊢
          simp only [refs] at hr
          have := hi.tm t
          rw [e1] at this
          simp only [rep]
          exact le_freeze (g' := g') (Nat.le_of_ble_eq_true hlt) b1 (.inl ⟨rfl, any_beq hr⟩) (by simp [g']) b2 (dreps_mono keepI (fun _ _ _ => rfl) hdr) hl (by unfold maxLen; omega) (fun o ho => .inr ⟨rfl, ho⟩)
            (fun o ho hI => by rcases hI with hI | ⟨_, hI⟩; exact b4 o hI; omega) this
        · have ht := hi.tm t
          have hrw : ∀ x v : AV, Le [] x v → noNil x v = true → refs (s'.bl.map (·.1)) s'.ow v = true → rep g w x (a.tmps.getD t undef) → rep g' w v (a.tmps.getD t undef) := by
            intro x v hle hnn hr h
            cases hle with
            | refl => exact refsRep _ _ _ hr h
            | eq e => subst e; exact refsRep _ _ _ hr h
            | top => simp [rep]
            | nilOwn _ => simp [noNil] at hnn
            | nilSl =>
              simp only [rep] at h
              rw [h]
              simp only [rep, drep]
              exact ⟨none, 0, rfl, .inl trivial, Nat.zero_le _⟩
            | ownSl =>
              simp only [rep] at h ⊢
              exact drep_mono keepI (fun _ _ _ => rfl) (drep_of_own h)
          exact hrw _ _ h h' hr ht
end Go.Eng

namespace Go.Eng
open Go

def g0 (I : Nat → Nat → Prop) : Gh := ⟨I, fun _ => none, fun _ => none, fun _ => False, fun _ => 0⟩
def CallOkE (P : Program) (f : Nat) (args : List AV) (R : AV → Prop) : Prop :=
  ∀ (I : Nat → Nat → Prop) (w : World) (vals : Array Value), (∀ b o, I b o → (w.cell? ⟨b, o, none⟩).isSome = true) → reps (g0 I) w args vals.toList →
    Calls P f vals w fun e w' => ∃ y r g', e = .returned y ∧ R r ∧ rep g' w' r y ∧ Ret I w g' w'

def seen (g : Gh) (w : World) (b o : Nat) : Prop := g.I b o ∨ ((∃ n, g.m n = some b) ∧ (w.cell? ⟨b, o, none⟩).isSome = true)
section
variable {E : En} {bl : List (Nat × List AV)} {tm : List (Nat × AV)} {d : Option Tmp} {ty : TypeId} {pos : String} {af : Array Edge} {gd : Option (Nat × Bool)}
end
end Go.Eng

namespace Go.Eng
open Go

def plain : AV → Bool
  | .v _ => true
  | .top => true
  | _ => false
def MoreOk (e : Nat) (more : List (List AV)) : Prop := ∀ r ∈ more, r.length = e ∧ ∀ x ∈ r, plain x = true
theorem reps_plain {g g' : Gh} {w w' : World} : ∀ {xs : List AV} {ys : List Value}, (∀ x ∈ xs, plain x = true) → reps g w xs ys → reps g' w' xs ys
  | [], ys, _, h => by simpa only [reps] using h
  | x :: xs, ys, hp, h => by
    simp only [reps] at h ⊢
    obtain ⟨y, zs, e, h1, h2⟩ := h
    refine ⟨y, zs, e, ?_, reps_plain (fun z hz => hp z (by simp [hz])) h2⟩
    have := hp x (by simp)
    cases x <;> simp_all [plain, rep]
section
variable {E : En} {ops : Array Oper} {rest : List Oper} {Q : Exit → St → Prop} {tm : List (Nat × AV)} {bl bl' : List (Nat × List AV)} {ow : List Nat} {d : Nat} {ty : TypeId} {pos : String} {af : Array Edge}
end
end Go.Eng

namespace Go.Eng
open Go

theorem dreps_take {g : Gh} {I : Nat → Nat → Prop} {w w' : World} : ∀ {xs zs : List AV} {ys : List Value}, (∀ x ∈ xs, plain x = true) → reps g w (xs ++ zs) ys → dreps I w' xs (ys.take xs.length)
  | [], zs, ys, _, _ => by simp [dreps]
  | x :: xs, zs, ys, hp, h => by
    simp only [List.cons_append, reps] at h
    obtain ⟨y, ys', rfl, h1, h2⟩ := h
    simp only [List.length_cons, List.take_succ_cons, dreps]
    refine ⟨y, _, rfl, ?_, dreps_take (fun z hz => hp z (by simp [hz])) h2⟩
    have := hp x (by simp)
    cases x <;> simp_all [plain, rep, drep]
theorem own_here {g : Gh} {w : World} {n T e : Nat} {rows : List (List AV)} {y : Value} (h : ownRep g w n T e rows y) (h0 : 0 < rows.length) :
    ∃ b c arr, g.om n = some b ∧ y = .slice (some ⟨b, 0, none⟩) rows.length c ∧ rows.length ≤ c ∧ c ≤ maxLen ∧ w.heap[b]? = some (.cells arr T (0, 0)) ∧ arr.size = c * e ∧ dreps g.I w rows.flatten (arr.toList.take (rows.length * e)) := by
  obtain ⟨_, h2, xs, ⟨h3, h4⟩, h5, _⟩ := h
  rcases h4 with ⟨_, h4⟩ | ⟨b, c, arr, rfl, _, k2, k3, k4, k5, rfl⟩
  · omega
  · exact ⟨b, c, arr, h2.symm, rfl, k3, k4, k2, k5, h5⟩
section
variable {E : En} {ops : Array Oper} {rest : List Oper} {Q : Exit → St → Prop} {tm tm' : List (Nat × AV)} {bl bl' : List (Nat × List AV)} {ow : List Nat} {d : Nat} {ty : TypeId} {pos : String} {af : Array Edge}
end
end Go.Eng
