/- The steps in the form in which a walk takes them. No program in sight. -/
import Derived.Test.YtikbndfbjgdldaaEF
namespace Go.Eng
open Go

/-! Forms that compute: what is stored is in head normal form. -/
def lookO : List (Nat × AV) → Nat → Option AV
  | [], _ => some .top
  | (k, v) :: r, t => bif Nat.beq k t then some v else lookO r t
theorem lookO_eq : ∀ (tm : List (Nat × AV)) (t : Nat), lookO tm t = some (look tm t)
  | [], _ => rfl
  | (k, v) :: r, t => by
    simp only [lookO, look]
    cases Nat.beq k t
    · exact lookO_eq r t
    · rfl
def cstO : Value → Option AV
  | .agg a => some (.agg (a.toList.map AV.v))
  | .bool b => some (.v (.bool b))
  | .int k n => some (.v (.int k n))
  | .slice a n c => some (.v (.slice a n c))
  | x => some (.v x)
def evO (tm : List (Nat × AV)) : Operand → Option AV
  | .tmp t => lookO tm t
  | .const x => cstO x
  | .global _ => some .top
  | .func f => some (.v (.func (.func f) #[] #[]))
theorem evO_ev {tm : List (Nat × AV)} {x : Operand} {v : AV} (h : evO tm x = some v) : ev tm x = v := by
  cases x with
  | tmp t => simpa [evO, lookO_eq, ev] using h
  | const x => cases x <;> simpa [evO, cstO, ev, cst] using h
  | global n => simpa [evO, ev] using h
  | func f => simpa [evO, ev] using h
def acellsO : AV → Option (List AV)
  | .agg cs => some cs
  | x => some [x]
theorem acellsO_eq {x : AV} {cs : List AV} (h : acellsO x = some cs) : acells x = cs := by
  cases x <;> simpa [acellsO, acells] using h
def takeO : Nat → List AV → Option (List AV)
  | 0, _ => some []
  | _ + 1, [] => none
  | n + 1, x :: xs => match takeO n xs with | some r => some (x :: r) | none => none
theorem takeO_eq : ∀ {n : Nat} {l r : List AV}, takeO n l = some r → n ≤ l.length ∧ l.take n = r
  | 0, l, r, h => by simp [takeO] at h; simp [h]
  | n + 1, [], r, h => by simp [takeO] at h
  | n + 1, x :: xs, r, h => by
    simp only [takeO] at h
    split at h
    · rename_i r' hr
      obtain ⟨h1, h2⟩ := takeO_eq hr
      simp only [Option.some.injEq] at h
      exact ⟨by simp; exact h1, by simp [h2, h]⟩
    · cases h
def dropO : Nat → List AV → Option (List AV)
  | 0, l => some l
  | _ + 1, [] => none
  | n + 1, _ :: xs => dropO n xs
theorem dropO_eq : ∀ {n : Nat} {l r : List AV}, dropO n l = some r → l.drop n = r
  | 0, l, r, h => by simpa [dropO] using h
  | n + 1, [], r, h => by simp [dropO] at h
  | n + 1, x :: xs, r, h => by simpa using dropO_eq (by simpa [dropO] using h)
def loadO (ag : Bool) (sz : Nat) (cs : List AV) : Option AV := bif ag then (match takeO sz cs with | some r => some (.agg r) | none => none) else (match cs with | x :: _ => some x | [] => none)
theorem loadO_eq {ag : Bool} {sz : Nat} {cs : List AV} {v : AV} (h : loadO ag sz cs = some v) : aload ag sz cs = some v := by
  cases ag
  · cases cs with
    | nil => simp [loadO] at h
    | cons x cs => simpa [loadO, aload] using h
  · simp only [loadO, cond_true] at h
    split at h
    · rename_i r hr
      obtain ⟨h1, h2⟩ := takeO_eq hr
      have : Nat.ble sz cs.length = true := Nat.ble_eq_true_of_le h1
      simp only [aload, cond_true, this, h2]
      exact h
    · cases h
def putO : List AV → Nat → List AV → Option (List AV)
  | l, 0, [] => some l
  | [], 0, _ :: _ => none
  | _ :: l, 0, c :: cs => match putO l 0 cs with | some r => some (c :: r) | none => none
  | [], _ + 1, _ => none
  | x :: l, n + 1, cs => match putO l n cs with | some r => some (x :: r) | none => none
theorem putO_eq : ∀ {l cs r : List AV} {n : Nat}, putO l n cs = some r → n + cs.length ≤ l.length ∧ splice l n cs = r
  | l, [], r, 0, h => by simp [putO] at h; simp [splice, h]
  | [], c :: cs, r, 0, h => by simp [putO] at h
  | x :: l, c :: cs, r, 0, h => by
    simp only [putO] at h
    split at h
    · rename_i r' hr
      obtain ⟨h1, h2⟩ := putO_eq hr
      simp only [Option.some.injEq] at h
      refine ⟨by simp at h1 ⊢; exact h1, ?_⟩
      simp [splice] at h2 ⊢
      rw [← h, ← h2]
    · cases h
  | [], cs, r, n + 1, h => by cases cs <;> simp [putO] at h
  | x :: l, cs, r, n + 1, h => by
    have h' : (match putO l n cs with | some r => some (x :: r) | none => none) = some r := by cases cs <;> simpa [putO] using h
    split at h'
    · rename_i r' hr
      obtain ⟨h1, h2⟩ := putO_eq hr
      simp only [Option.some.injEq] at h'
      refine ⟨by simp; omega, ?_⟩
      simp only [splice] at h2 ⊢
      rw [show n + 1 + cs.length = (n + cs.length) + 1 by omega]
      simp [h2, h']
    · cases h'
def plO : List (Nat × Nat) → Nat → Option (Nat × Nat)
  | [], _ => none
  | p :: _, 0 => some p
  | _ :: r, n + 1 => plO r n
theorem plO_eq : ∀ (l : List (Nat × Nat)) (n : Nat), plO l n = l[n]?
  | [], n => by simp [plO]
  | p :: l, 0 => by simp [plO]
  | p :: l, n + 1 => by simp [plO, plO_eq l n]
/-- A literal's cells: what each part's operand reads as goes to its place. -/
def buildO (pl : Nat → Option (Nat × Nat)) (tm : List (Nat × AV)) : List AV → List (Nat × Operand) → Option (List AV)
  | z, [] => some z
  | z, (i, x) :: r => match pl i with
    | none => none
    | some (off, size) => match evO tm x with
      | none => none
      | some v => bif isC v then (match acellsO v with
        | none => none
        | some cs => bif Nat.beq cs.length size then (match putO z off cs with | some z' => buildO pl tm z' r | none => none) else none) else none
theorem buildO_eq {pl : Nat → Option (Nat × Nat)} {tm : List (Nat × AV)} : ∀ {ps : List (Nat × Operand)} {z out : List AV}, buildO pl tm z ps = some out → abuild pl z (ps.map fun p => (p.1, ev tm p.2)) = some out
  | [], z, out, h => by simpa [buildO, abuild] using h
  | (i, x) :: r, z, out, h => by
    simp only [buildO] at h
    simp only [List.map_cons, abuild]
    split at h
    · cases h
    · rename_i off size hp
      split at h
      · cases h
      · rename_i v hv
        cases hc : isC v
        · rw [hc] at h; cases h
        · rw [hc] at h
          simp only [cond_true] at h
          split at h
          · cases h
          · rename_i cs hcs
            cases hl : Nat.beq cs.length size
            · rw [hl] at h; cases h
            · rw [hl] at h
              simp only [cond_true] at h
              split at h
              · rename_i z' hz
                obtain ⟨h1, h2⟩ := putO_eq hz
                have e1 := evO_ev hv
                have e2 := acellsO_eq hcs
                have e3 := Nat.eq_of_beq_eq_true hl
                simp only [hp, e1, e2, hl, hc, Bool.and_true, show Nat.ble (off + size) z.length = true from Nat.ble_eq_true_of_le (by omega), cond_true, h2]
                exact buildO_eq h
              · cases h
def setBO : List (Nat × List AV) → Nat → List AV → Option (List (Nat × List AV))
  | [], _, _ => some []
  | (k, c) :: r, n, cs => match setBO r n cs with
    | some r' => bif Nat.beq k n then some ((k, cs) :: r') else some ((k, c) :: r')
    | none => none
theorem setBO_eq : ∀ {bl r : List (Nat × List AV)} {n : Nat} {cs : List AV}, setBO bl n cs = some r → setB bl n cs = r
  | [], r, n, cs, h => by simpa [setBO, setB] using h
  | (k, c) :: bl, r, n, cs, h => by
    simp only [setBO] at h
    split at h
    · rename_i r' hr
      have := setBO_eq hr
      simp only [setB, List.map_cons] at this ⊢
      rw [this]
      cases hb : Nat.beq k n
      · rw [hb] at h; simpa using h
      · rw [hb] at h; simpa using h
    · cases h
def iniO : Nat → List AV → Option (List (Nat × AV))
  | _, [] => some []
  | k, x :: xs => match iniO (k + 1) xs with | some r => some ((k, x) :: r) | none => none
theorem iniO_eq : ∀ {xs : List AV} {k : Nat} {r : List (Nat × AV)}, iniO k xs = some r → (xs.zipIdx k).map (fun p => (p.2, p.1)) = r
  | [], k, r, h => by simpa [iniO] using h
  | x :: xs, k, r, h => by
    simp only [iniO] at h
    split at h
    · rename_i r' hr
      simp only [Option.some.injEq] at h
      simp [List.zipIdx_cons, iniO_eq hr, h]
    · cases h
theorem callOk {P : Program} {f nt : Nat} {fn : Func} {rs : Array ResultVar} {c : Code} {args : List AV} {tm : List (Nat × AV)} {R : AV → Prop} (hf : P.funcs[f]? = some fn) (hnt : fn.ntmps = nt) (hrs : fn.results = rs) (hb : fn.body = some c) (hn : Nat.ble args.length nt = true) (htm : iniO 0 args = some tm)
    (h : ∀ (B : Nat) (w0 : World) (I0 : Nat → Nat → Prop), W ⟨P, B, w0, nt, fun _ => False, [], I0, fun _ _ _ => False⟩ c (retQ ⟨P, B, w0, nt, fun _ => False, [], I0, fun _ _ _ => False⟩ rs.toList R) ⟨tm, [], []⟩) : CallOk P f args R :=
  CallOk_of_W hf hnt hrs hb (Nat.le_of_ble_eq_true hn) (by rw [iniO_eq htm]; exact h)
def opsO (tm : List (Nat × AV)) : List Operand → Option (List AV)
  | [] => some []
  | x :: r => match evO tm x with
    | none => none
    | some v => match opsO tm r with | some vs => some (v :: vs) | none => none
theorem opsO_eq {tm : List (Nat × AV)} : ∀ {xs : List Operand} {r : List AV}, opsO tm xs = some r → xs.map (ev tm) = r
  | [], r, h => by simpa [opsO] using h
  | x :: xs, r, h => by
    simp only [opsO] at h
    split at h
    · cases h
    · rename_i v hv
      split at h
      · rename_i vs hvs
        simp only [Option.some.injEq] at h
        simp [evO_ev hv, opsO_eq hvs, h]
      · cases h
section
variable {E : En} {bl : List (Nat × List AV)} {tm : List (Nat × AV)} {d : Option Tmp} {ty : TypeId} {pos : String} {af : Array Edge} {gd : Option (Nat × Bool)}
theorem q_move {x : Operand} {v : AV} (h : evO tm x = some v) : QV E bl tm ⟨d, .move x, ty, pos, af, gd⟩ v [] [] := QV_move (evO_ev h)
theorem q_assign {x : Operand} {v : AV} (h : evO tm x = some v) : QV E bl tm ⟨d, .assign x, ty, pos, af, gd⟩ v [] [] := QV_assign (evO_ev h)
theorem q_pick {c x y : Operand} {b : Bool} {v : AV} (hc : ev tm c = .v (.bool b)) (h : (bif b then evO tm x else evO tm y) = some v) : QV E bl tm ⟨d, .pick c x y, ty, pos, af, gd⟩ v [] [] :=
  QV_pick hc (by cases b <;> exact evO_ev h)
theorem q_load {t : Nat} {x : Operand} {n o sz : Nat} {ag : Bool} {cs ds : List AV} {v : AV} [ht : TyOk E.P t ag sz] (hx : ev tm x = .ptr n o) (hb : lookB bl n = some cs) (hd : dropO o cs = some ds) (h : loadO ag sz ds = some v) : QV E bl tm ⟨d, .load t x, ty, pos, af, gd⟩ v [] [] :=
  QV_load hx hb (by rw [dropO_eq hd]; exact loadO_eq h)
theorem q_loadE {t : Nat} {x : Operand} {sz : Nat} {ag : Bool} {cs : List AV} {v : AV} [ht : TyOk E.P t ag sz] (hx : ev tm x = .eptr cs) (h : loadO ag sz cs = some v) : QV E bl tm ⟨d, .load t x, ty, pos, af, gd⟩ v [] [] := QV_loadE hx (loadO_eq h)
theorem q_fieldAddrE {s f : Nat} {x : Operand} {cs ds : List AV} {off sz : Nat} {ag : Bool} [hf : FldOk E.P s f off ag sz] (hx : ev tm x = .eptr cs) (h : dropO off cs = some ds) : QV E bl tm ⟨d, .fieldAddr s x f, ty, pos, af, gd⟩ (.eptr ds) [] [] := by
  have := QV_fieldAddrE (E := E) (bl := bl) (tm := tm) (d := d) (ty := ty) (pos := pos) (af := af) (gd := gd) (s := s) (f := f) hx
  rwa [dropO_eq h] at this
theorem q_field {s f : Nat} {x : Operand} {cs ds : List AV} {off sz : Nat} {ag : Bool} {v : AV} [hf : FldOk E.P s f off ag sz] (hx : ev tm x = .agg cs) (hd : dropO off cs = some ds) (h : loadO ag sz ds = some v) (hl : Nat.ble (off + sz) cs.length = true) : QV E bl tm ⟨d, .field s x f, ty, pos, af, gd⟩ v [] [] := by
  refine QV_field hx ?_ (Nat.le_of_ble_eq_true hl)
  have h' := loadO_eq h
  have e := dropO_eq hd
  cases ag
  · simp only [aload, cond_false] at h' ⊢
    rw [← h', ← e, List.head?_drop]
  · simp only [aload, cond_true] at h' ⊢
    cases hb : Nat.ble sz ds.length
    · rw [hb] at h'; cases h'
    · rw [hb] at h'; rw [e]; exact h'
theorem q_box {t : Nat} {x : Operand} {v : AV} {n : Nat} {cs : List AV} (hx : evO tm x = some v) (hc : isC v = true) (h : acellsO v = some cs) : QV E bl tm ⟨d, .box t x, ty, pos, af, gd⟩ (.ptr n 0) [(n, cs)] [] := by
  have := QV_box (E := E) (bl := bl) (tm := tm) (d := d) (ty := ty) (pos := pos) (af := af) (gd := gd) (t := t) n (evO_ev hx) hc
  rwa [acellsO_eq h] at this
/-- A type's zero cells, spelled out. -/
class ZcOk (P : Program) (t : Nat) (zc : outParam (List AV)) : Prop where
  ok : ∃ z, ZeroOk P t z ∧ z.cells.toList.map AV.v = zc
theorem q_alloc {t n : Nat} {zc : List AV} [hz : ZcOk E.P t zc] : QV E bl tm ⟨d, .alloc t, ty, pos, af, gd⟩ (.ptr n 0) [(n, zc)] [] := by
  obtain ⟨z, h1, h2⟩ := hz.ok
  have := QV_alloc (E := E) (bl := bl) (tm := tm) (d := d) (ty := ty) (pos := pos) (af := af) (gd := gd) (t := t) n
  rwa [h2] at this
def topsO : List AV → Option (List AV)
  | [] => some []
  | _ :: r => match topsO r with | some s => some (.top :: s) | none => none
theorem topsO_eq : ∀ {l r : List AV}, topsO l = some r → r.all isTop = true ∧ r.length = l.length
  | [], r, h => by simp [topsO] at h; subst h; simp
  | x :: l, r, h => by
    simp only [topsO] at h
    split at h
    · rename_i s hs
      simp only [Option.some.injEq] at h
      subst h
      obtain ⟨h1, h2⟩ := topsO_eq hs
      exact ⟨by simp only [List.all_cons, h1, isTop, Bool.and_self], by simp [h2]⟩
    · cases h
theorem q_allocT {t n : Nat} {zc ts : List AV} [hz : ZcOk E.P t zc] (h : topsO zc = some ts) : QV E bl tm ⟨d, .alloc t, ty, pos, af, gd⟩ (.ptr n 0) [(n, ts)] [] :=
  QV_tops q_alloc (topsO_eq h).1 (topsO_eq h).2
theorem q_build {t : Nat} {ps : Array (Nat × Operand)} {z : List Value} {pl : List (Nat × Nat)} {zc out : List AV} [hb : BldOk E.P t z pl] [hz : ZcOk E.P t zc] (h : buildO (plO pl) tm zc ps.toList = some out) : QV E bl tm ⟨d, .build t ps, ty, pos, af, gd⟩ (.agg out) [] [] := by
  refine QV_build (z := z) (pl := pl) ?_
  obtain ⟨z', h1, h2⟩ := hz.ok
  obtain ⟨zv, fields, k1, k2, _⟩ := hb.bld
  have hw : ∀ w, (Result.ok z' w : Result Value) = .ok zv w := fun w => (h1.zero w).symm.trans (k1 w)
  have : z' = zv := by
    have := hw default
    simpa using this
  subst this
  rw [← k2, h2]
  have := buildO_eq h
  rwa [show plO pl = (pl[·]?) from funext fun n => plO_eq pl n] at this
theorem q_lenM {α : Type} {t : Nat} {x : Operand} {xv : AV} {T e e' by_ : Nat} {f : α → List AV} {l : List α} [hs : SlOk E.P t T e' by_] (hx : ev tm x = xv) (hr : arows xv = some (e, l.map f)) :
    QV E bl tm ⟨d, .call ⟨.builtin .len, #[x], #[t]⟩, ty, pos, af, gd⟩ (.v (.int .i64 l.length)) [] [] := by
  have := QV_len (E := E) (bl := bl) (tm := tm) (d := d) (ty := ty) (pos := pos) (af := af) (gd := gd) (t := t) (T := T) (by_ := by_) hx hr
  rwa [List.length_map] at this
theorem q_makeFunc {f : Fn} {fs cs : Array Operand} {xs ys : List AV} (hx : opsO tm fs.toList = some xs) (hy : opsO tm cs.toList = some ys) : QV E bl tm ⟨d, .makeFunc f fs cs, ty, pos, af, gd⟩ (.fn f xs ys) [] [] := by
  have := QV_makeFunc (E := E) (bl := bl) (tm := tm) (d := d) (ty := ty) (pos := pos) (af := af) (gd := gd) (f := f) (fs := fs) (cs := cs)
  rwa [opsO_eq hx, opsO_eq hy] at this
end

theorem W_condT {E : En} {Q : Exit → St → Prop} {s : St} {c : Operand} {x y : Code} (hc : ev s.tm c = .v (.bool true)) (h : W E x Q s) : W E (.cond c x y) Q s := W_cond hc (fun _ => h) (fun h => by cases h)
theorem W_condF {E : En} {Q : Exit → St → Prop} {s : St} {c : Operand} {x y : Code} (hc : ev s.tm c = .v (.bool false)) (h : W E y Q s) : W E (.cond c x y) Q s := W_cond hc (fun h => by cases h) (fun _ => h)
def splitO {α : Type} : Nat → List α → Option (List α × List α)
  | 0, l => some ([], l)
  | _ + 1, [] => none
  | n + 1, x :: xs => match splitO n xs with | some (a, b) => some (x :: a, b) | none => none
theorem splitO_eq {α : Type} : ∀ {n : Nat} {l a b : List α}, splitO n l = some (a, b) → l.take n = a ∧ l.drop n = b
  | 0, l, a, b, h => by simp [splitO] at h; simp [h]
  | n + 1, [], a, b, h => by simp [splitO] at h
  | n + 1, x :: xs, a, b, h => by
    simp only [splitO] at h
    split at h
    · rename_i a' b' hr
      obtain ⟨h1, h2⟩ := splitO_eq hr
      simp only [Option.some.injEq, Prod.mk.injEq] at h
      simp [h1, h2, h]
    · cases h
theorem wdraw {E : En} {id : Nat} {l hd tl : List Oper} {Q : Exit → St → Prop} {tm : List (Nat × AV)} {bl : List (Nat × List AV)} {ow : List Nat} (n : Nat) (hm : E.P.follows .mixedOrders = true) (hB : headB l.toArray n = true) (hT : tailB l.toArray n = true) (hs : splitO n l = some (hd, tl))
    (h : HW E l.toArray bl hd ⟨tm, bl, ow⟩ (WL E l.toArray tl Q)) : W E (.region id l.toArray true) Q ⟨tm, bl, ow⟩ := by
  obtain ⟨h1, h2⟩ := splitO_eq hs
  subst h1; subst h2
  exact W_draw n hm hB hT h
/-- An operation's guard says yes. -/
def GY (ops : Array Oper) (tm : List (Nat × AV)) : Option (Nat × Bool) → Prop
  | none => True
  | some (j, b) => ∃ d, (ops[j]?).bind (·.dst) = some d ∧ look tm d = .v (.bool b)
/-- .. says no. -/
def GN (ops : Array Oper) (tm : List (Nat × AV)) : Option (Nat × Bool) → Prop
  | none => False
  | some (j, b) => ∃ d, (ops[j]?).bind (·.dst) = some d ∧ look tm d = .v (.bool (!b))

/-- The operation that its guard asks has itself been passed over. -/
def GU (ops : Array Oper) (tm : List (Nat × AV)) : Option (Nat × Bool) → Prop
  | none => False
  | some (j, _) => ∃ d, (ops[j]?).bind (·.dst) = some d ∧ look tm d = .v undef

section
variable {E : En} {ops : Array Oper} {rest : List Oper} {Q : Exit → St → Prop} {K : St → Prop} {tm : List (Nat × AV)} {bl bl0 : List (Nat × List AV)} {ow : List Nat} {d : Nat} {op : Op} {ty : TypeId} {pos : String} {af : Array Edge} {gd : Option (Nat × Bool)} {v : AV} {cs : List AV}

theorem wl_gy {o : Oper} {s : St} {nb : List (Nat × List AV)} {no : List Nat} (h : QV E s.bl s.tm o v nb no) (hg : GY ops s.tm o.guard) (hd : dstB E.nt o = true) (hf : freshB nb no s = true) (hk : WL E ops rest Q (s.app o.dst v nb no)) : WL E ops (o :: rest) Q s := by
  cases hgd : o.guard with
  | none => exact WL_q h hgd hd hf hk
  | some jb =>
    obtain ⟨j, b⟩ := jb
    rw [hgd] at hg
    obtain ⟨d, h1, h2⟩ := hg
    exact WL_gy h hgd h1 h2 hd hf hk
theorem hw_gy {o : Oper} {s : St} {nb : List (Nat × List AV)} {no : List Nat} (h : QV E bl0 s.tm o v nb no) (hg : GY ops s.tm o.guard) (hd : dstB E.nt o = true) (hf : freshB nb no s = true) (hn : namesB nb o = true) (hk : HW E ops bl0 rest (s.app o.dst v nb no) K) : HW E ops bl0 (o :: rest) s K := by
  cases hgd : o.guard with
  | none => exact HW_q h hgd hd hf hn hk
  | some jb =>
    obtain ⟨j, b⟩ := jb
    rw [hgd] at hg
    obtain ⟨d, h1, h2⟩ := hg
    exact HW_gy h hgd h1 h2 hd hf hn hk
theorem wl0 (h : QV E bl tm ⟨some d, op, ty, pos, af, gd⟩ v [] []) (hg : GY ops tm gd) (hd : Nat.blt d E.nt = true) (hk : WL E ops rest Q ⟨(d, v) :: tm, bl, ow⟩) : WL E ops (⟨some d, op, ty, pos, af, gd⟩ :: rest) Q ⟨tm, bl, ow⟩ := wl_gy h hg hd (by simp [freshB]) hk
theorem wlb (h : QV E bl tm ⟨some d, op, ty, pos, af, gd⟩ v [(d, cs)] []) (hg : GY ops tm gd) (hd : Nat.blt d E.nt = true) (hf : freshB [(d, cs)] [] ⟨tm, bl, ow⟩ = true) (hk : WL E ops rest Q ⟨(d, v) :: tm, (d, cs) :: bl, ow⟩) : WL E ops (⟨some d, op, ty, pos, af, gd⟩ :: rest) Q ⟨tm, bl, ow⟩ := wl_gy h hg hd hf hk
theorem wlo (h : QV E bl tm ⟨some d, op, ty, pos, af, gd⟩ v [] [d]) (hg : GY ops tm gd) (hd : Nat.blt d E.nt = true) (hf : freshB [] [d] ⟨tm, bl, ow⟩ = true) (hk : WL E ops rest Q ⟨(d, v) :: tm, bl, d :: ow⟩) : WL E ops (⟨some d, op, ty, pos, af, gd⟩ :: rest) Q ⟨tm, bl, ow⟩ := wl_gy h hg hd hf hk
theorem wln (hg : GN ops tm gd) (hd : Nat.blt d E.nt = true) (hk : WL E ops rest Q ⟨(d, .v undef) :: tm, bl, ow⟩) : WL E ops (⟨some d, op, ty, pos, af, gd⟩ :: rest) Q ⟨tm, bl, ow⟩ := by
  cases gd with
  | none => exact hg.elim
  | some jb =>
    obtain ⟨j, b⟩ := jb
    obtain ⟨d', h1, h2⟩ := hg
    exact WL_gn (b := !b) (c := b) rfl h1 h2 (by simp) hd hk
theorem wlnu (hg : GU ops tm gd) (hd : Nat.blt d E.nt = true) (hk : WL E ops rest Q ⟨(d, .v undef) :: tm, bl, ow⟩) : WL E ops (⟨some d, op, ty, pos, af, gd⟩ :: rest) Q ⟨tm, bl, ow⟩ := by
  cases gd with
  | none => exact hg.elim
  | some jb =>
    obtain ⟨j, b⟩ := jb
    obtain ⟨d', h1, h2⟩ := hg
    exact WL_gu rfl h1 h2 hd hk
theorem hwnu (hg : GU ops tm gd) (hd : Nat.blt d E.nt = true) (hk : HW E ops bl0 rest ⟨(d, .v undef) :: tm, bl, ow⟩ K) : HW E ops bl0 (⟨some d, op, ty, pos, af, gd⟩ :: rest) ⟨tm, bl, ow⟩ K := by
  cases gd with
  | none => exact hg.elim
  | some jb =>
    obtain ⟨j, b⟩ := jb
    obtain ⟨d', h1, h2⟩ := hg
    exact HW_gu rfl h1 h2 hd hk
theorem hw0 (h : QV E bl0 tm ⟨some d, op, ty, pos, af, gd⟩ v [] []) (hg : GY ops tm gd) (hd : Nat.blt d E.nt = true) (hk : HW E ops bl0 rest ⟨(d, v) :: tm, bl, ow⟩ K) : HW E ops bl0 (⟨some d, op, ty, pos, af, gd⟩ :: rest) ⟨tm, bl, ow⟩ K := hw_gy h hg hd (by simp [freshB]) (by simp [namesB]) hk
theorem hwb (h : QV E bl0 tm ⟨some d, op, ty, pos, af, gd⟩ v [(d, cs)] []) (hg : GY ops tm gd) (hd : Nat.blt d E.nt = true) (hf : freshB [(d, cs)] [] ⟨tm, bl, ow⟩ = true) (hk : HW E ops bl0 rest ⟨(d, v) :: tm, (d, cs) :: bl, ow⟩ K) : HW E ops bl0 (⟨some d, op, ty, pos, af, gd⟩ :: rest) ⟨tm, bl, ow⟩ K := hw_gy h hg hd hf (by simp [namesB]) hk
theorem hwo (h : QV E bl0 tm ⟨some d, op, ty, pos, af, gd⟩ v [] [d]) (hg : GY ops tm gd) (hd : Nat.blt d E.nt = true) (hf : freshB [] [d] ⟨tm, bl, ow⟩ = true) (hk : HW E ops bl0 rest ⟨(d, v) :: tm, bl, d :: ow⟩ K) : HW E ops bl0 (⟨some d, op, ty, pos, af, gd⟩ :: rest) ⟨tm, bl, ow⟩ K := hw_gy h hg hd hf (by simp [namesB]) hk
theorem hwn (hg : GN ops tm gd) (hd : Nat.blt d E.nt = true) (hk : HW E ops bl0 rest ⟨(d, .v undef) :: tm, bl, ow⟩ K) : HW E ops bl0 (⟨some d, op, ty, pos, af, gd⟩ :: rest) ⟨tm, bl, ow⟩ K := by
  cases gd with
  | none => exact hg.elim
  | some jb =>
    obtain ⟨j, b⟩ := jb
    obtain ⟨d', h1, h2⟩ := hg
    exact HW_gn (b := !b) (c := b) rfl h1 h2 (by simp) hd hk
theorem look_again {x : AV} {k : Nat} (hx : look tm k = x) : ∀ t, look ((k, x) :: tm) t = look tm t := fun t => by
  simp only [look]
  cases hb : Nat.beq k t
  · rfl
  · have := Nat.eq_of_beq_eq_true hb
    subst this; simp [hx]
theorem WL_same {l : List Oper} {s s' : St} (h1 : s.bl = s'.bl) (h2 : s.ow = s'.ow) (h3 : ∀ t, look s.tm t = look s'.tm t) (h : WL E ops l Q s) : WL E ops l Q s' := fun g a w hi =>
  h g a w ⟨by rw [h1, h2]; exact hi.mem, fun t => by rw [h3]; exact hi.tm t, hi.de, hi.sz⟩
theorem QV_same {o : Oper} {tm' : List (Nat × AV)} {v : AV} {nb : List (Nat × List AV)} {no : List Nat} (h3 : ∀ t, look tm t = look tm' t) (h : QV E bl tm o v nb no) : QV E bl tm' o v nb no := fun g w ρ bl' ow' hm hb hf hn hop =>
  h g w ρ bl' ow' hm hb hf hn fun x hx => by rw [ev_same (tm' := tm') fun t _ => h3 t]; exact hop x hx
theorem QI_same {o : Oper} {tm' : List (Nat × AV)} {n : Nat} {cs : List AV} (h3 : ∀ t, look tm t = look tm' t) (h : QI E tm o n cs) : QI E tm' o n cs :=
  ⟨h.1, h.2.1, h.2.2.1, h.2.2.2.1, fun g w ρ bl' ow' hm h1 h2 hop => h.2.2.2.2 g w ρ bl' ow' hm h1 h2 fun x hx => by rw [ev_same (tm' := tm') fun t _ => h3 t]; exact hop x hx⟩
theorem app_same {s s' : St} {d : Option Tmp} {v : AV} {nb : List (Nat × List AV)} {no : List Nat} (h3 : ∀ t, look s.tm t = look s'.tm t) : ∀ t, look (s.app d v nb no).tm t = look (s'.app d v nb no).tm t := fun t => by
  cases d with
  | none => exact h3 t
  | some d => simp only [St.app, look]; rw [h3]
theorem HW_same {ops' : Array Oper} {tl : List Oper} : ∀ (l : List Oper) (s s' : St), s.bl = s'.bl → s.ow = s'.ow → (∀ t, look s.tm t = look s'.tm t) → HW E ops bl0 l s (WL E ops' tl Q) → HW E ops bl0 l s' (WL E ops' tl Q)
  | [], _, _, h1, h2, h3, h => WL_same h1 h2 h3 h
  | o :: l, s, s', h1, h2, h3, h => by
    have hf : ∀ nb no, freshB nb no s = freshB nb no s' := fun nb no => by simp only [freshB, h1, h2]
    have hb : ∀ v nb no, (s.app o.dst v nb no).bl = (s'.app o.dst v nb no).bl ∧ (s.app o.dst v nb no).ow = (s'.app o.dst v nb no).ow := fun v nb no => by simp only [St.app, h1, h2]; exact ⟨trivial, trivial⟩
    rcases h with ⟨v, nb, no, k1, k2, k3, k4, k5⟩ | ⟨j, d, b, k1, k2, k3, k4, k5⟩ | ⟨n, cs, k1, k2, k3⟩ | ⟨j, d, b, k1, k2, k3, k4, k5⟩
    · refine .inl ⟨v, nb, no, QV_same h3 k1, k2, ⟨by rw [← hf]; exact k3.1, k3.2⟩, ?_, HW_same l _ _ (hb v nb no).1 (hb v nb no).2 (app_same h3) k5⟩
      rcases k4 with k4 | ⟨j, d, b, e1, e2, e3⟩
      · exact .inl k4
      · exact .inr ⟨j, d, b, e1, e2, by rw [← h3]; exact e3⟩
    · exact .inr (.inl ⟨j, d, b, k1, k2, by rw [← h3]; exact k3, k4, HW_same l _ _ (hb _ _ _).1 (hb _ _ _).2 (app_same h3) k5⟩)
    · exact .inr (.inr (.inl ⟨n, cs, QI_same h3 k1, by rw [← h1]; exact k2, HW_same l _ _ (by simp only [St.app, h1]) (by simp only [St.app, h2]) (app_same h3) k3⟩))
    · exact .inr (.inr (.inr ⟨j, d, b, k1, k2, by rw [← h3]; exact k3, k4, HW_same l _ _ (hb _ _ _).1 (hb _ _ _).2 (app_same h3) k5⟩))
/-- A guard that is not decided: both ways. -/
theorem wls {j d' : Nat} {b c : Bool} (_ : (ops[j]?).bind (·.dst) = some d') (hb : look tm d' = .v (.bool c)) (ht : c = true → WL E ops (⟨some d, op, ty, pos, af, some (j, b)⟩ :: rest) Q ⟨(d', .v (.bool true)) :: tm, bl, ow⟩) (hf : c = false → WL E ops (⟨some d, op, ty, pos, af, some (j, b)⟩ :: rest) Q ⟨(d', .v (.bool false)) :: tm, bl, ow⟩) :
    WL E ops (⟨some d, op, ty, pos, af, some (j, b)⟩ :: rest) Q ⟨tm, bl, ow⟩ := by
  cases c
  · exact WL_same (s := ⟨(d', .v (.bool false)) :: tm, bl, ow⟩) (s' := ⟨tm, bl, ow⟩) rfl rfl (look_again hb) (hf rfl)
  · exact WL_same (s := ⟨(d', .v (.bool true)) :: tm, bl, ow⟩) (s' := ⟨tm, bl, ow⟩) rfl rfl (look_again hb) (ht rfl)
theorem hws {ops' : Array Oper} {tl : List Oper} {j d' : Nat} {b c : Bool} (_ : (ops[j]?).bind (·.dst) = some d') (hb : look tm d' = .v (.bool c)) (ht : c = true → HW E ops bl0 (⟨some d, op, ty, pos, af, some (j, b)⟩ :: rest) ⟨(d', .v (.bool true)) :: tm, bl, ow⟩ (WL E ops' tl Q))
    (hf : c = false → HW E ops bl0 (⟨some d, op, ty, pos, af, some (j, b)⟩ :: rest) ⟨(d', .v (.bool false)) :: tm, bl, ow⟩ (WL E ops' tl Q)) : HW E ops bl0 (⟨some d, op, ty, pos, af, some (j, b)⟩ :: rest) ⟨tm, bl, ow⟩ (WL E ops' tl Q) := by
  cases c
  · exact HW_same _ ⟨(d', .v (.bool false)) :: tm, bl, ow⟩ ⟨tm, bl, ow⟩ rfl rfl (look_again hb) (hf rfl)
  · exact HW_same _ ⟨(d', .v (.bool true)) :: tm, bl, ow⟩ ⟨tm, bl, ow⟩ rfl rfl (look_again hb) (ht rfl)
/-- A call whose contract leaves its result open. -/
theorem wlc {x : Operand} {xs : Array Operand} {ts : Array TypeId} {f : Nat} {ys : List AV} {R : AV → Prop} [hf : FnOk E.P f] (h : CallOk E.P f ys R) (hx : ev tm x = .v (.func (.func f) #[] #[])) (ha : LeDs (xs.toList.map (ev tm)) ys) (ho : ∀ r, R r → ownsIn [] r = true) (hd : Nat.blt d E.nt = true)
    (hk : ∀ r, R r → WL E ops rest Q ⟨(d, ren 0 r) :: tm, bl, ow⟩) : WL E ops (⟨some d, .call ⟨.value x, xs, ts⟩, ty, pos, af, none⟩ :: rest) Q ⟨tm, bl, ow⟩ := by
  intro g a w hi
  unfold wpList
  rw [show Region.wanted ⟨some d, .call ⟨.value x, xs, ts⟩, ty, pos, af, none⟩ (yielded ops a.tmps) = true by simp [Region.wanted]]
  refine .inl ?_
  have h1 := rep_ev hi.tm x
  have h2 : reps g w (xs.toList.map (ev tm)) (xs.toList.map a.eval) := reps_map _ fun y _ => rep_ev hi.tm y
  rw [hx] at h1
  simp only [rep] at h1
  obtain ⟨fn, f1, f2, f3⟩ := hf.ok
  have f2' : fn.name ≠ "runtime.NumGoroutine" := by simpa using f2
  have f3' : fn.body ≠ none := fun e => by rw [e] at f3; simp at f3
  have hrun : (execOp a.eval ⟨some d, .call ⟨.value x, xs, ts⟩, ty, pos, af, none⟩).run E.P w = .ok (.enter f (xs.map a.eval)) w := by
    simp [execOp, resolve, Deferred.ofValue, h1, invoke, callFunc, f1, f2', f3']
  unfold Oper.wp
  rw [hrun]
  have hc := h g.I w (xs.map a.eval) hi.mem.cell (by rw [Array.toList_map]; exact dreps_leDs ha h2)
  refine hc.mono fun e w' he => ?_
  obtain ⟨y, r, g', rfl, hR, h3, h4⟩ := he
  obtain ⟨gc, h5, h6, h7, h8⟩ := hi.mem.called h4 0 [] (fun n hn => by simp at hn)
  have := hi.app (d := some d) (v := ren 0 r) (y := y) (nb := []) (no := []) (fun k hk => by cases hk; exact Nat.le_of_ble_eq_true hd) h5 (by simpa using h6) (rep_ren h7 h8 (ho r hR) h3)
  exact hk r hR gc _ w' this
/-- The first store to a variable that the same statement has made. -/
theorem hwi {y : Operand} {t n sz : Nat} {ag : Bool} {c0 : AV} {ds : List AV} [ht : TyOk E.P t ag sz] (hx : ev tm (.tmp n) = .ptr n 0) (hy : evO tm y = some v) (hro : n ∉ E.ron)
    (hc : isC v = true) (ha : acellsO v = some (c0 :: ds)) (hall : (c0 :: ds).all isCell = true) (hl : Nat.beq (c0 :: ds).length sz = true) (hi : initB n sz bl = true) (hk : HW E ops bl0 rest ⟨tm, (n, c0 :: ds) :: bl, ow⟩ K) : HW E ops bl0 (⟨none, .store t (.tmp n) y, ty, pos, af, none⟩ :: rest) ⟨tm, bl, ow⟩ K := by
  have e := acellsO_eq ha
  have e2 := Nat.eq_of_beq_eq_true hl
  have := QI_store (E := E) (tm := tm) (ty := ty) (pos := pos) (af := af) (t := t) (y := y) (n := n) (v := v) hx (evO_ev hy) hro hc (by rw [e]; exact hall) (by rw [e]; exact e2) (by rw [e]; simp)
  rw [e] at this
  exact HW_i this (by rw [e2]; exact hi) hk
theorem wst {x y : Operand} {t nn o sz : Nat} {ag : Bool} {ds r : List AV} {bl' : List (Nat × List AV)} [ht : TyOk E.P t ag sz] (hx : ev tm x = .ptr nn o) (hy : evO tm y = some v) (hb : lookB bl nn = some cs) (hro : nn ∉ E.ron)
    (hc : isC v = true) (ha : acellsO v = some ds) (hall : ds.all isCell = true) (hl : Nat.beq ds.length sz = true) (hp : putO cs o ds = some r) (hs : setBO bl nn r = some bl') (hk : WL E ops rest Q ⟨tm, bl', ow⟩) : WL E ops (⟨none, .store t x y, ty, pos, af, none⟩ :: rest) Q ⟨tm, bl, ow⟩ := by
  obtain ⟨h1, h2⟩ := putO_eq hp
  have e := acellsO_eq ha
  have e2 := Nat.eq_of_beq_eq_true hl
  refine WL_t rfl (TV_store rfl hx (evO_ev hy) hb hro hc (by rw [e]; exact hall) (by rw [e]; exact e2) (by omega)) ?_
  simp only [St.app, List.nil_append]
  rw [e, h2, setBO_eq hs]
  exact hk
end
end Go.Eng
