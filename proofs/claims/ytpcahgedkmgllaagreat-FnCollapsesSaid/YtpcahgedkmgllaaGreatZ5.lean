/- My walking engine, part 5: abstract values of Go, and the rules of a walk over them. No program in sight. -/
import Derived.Test.YtpcahgedkmgllaaGreatZ4
import Derived.ArgAppend
namespace Go.Eng
open Go Go.Conc

/- Behind an append the old slice of that name is seen as data alone. -/
mutual
def kill (n : Nat) : AV → AV
  | .agg cs => .agg (killL n cs)
  | .tup cs => .tup (killL n cs)
  | .own k T e rows => bif Nat.beq k n then .sl e rows else .own k T e rows
  | .fn f fs cs => .fn f (killL n fs) (killL n cs)
  | .top => .top
  | .v x => .v x
  | .sl e rows => .sl e rows
  | .ptr k o => .ptr k o
  | .eptr cs => .eptr cs
  | .arr k T e l => .arr k T e l
def killL (n : Nat) : List AV → List AV
  | [] => []
  | x :: xs => kill n x :: killL n xs
end
mutual
def killO (n : Nat) : AV → Option AV
  | .agg cs => match killOL n cs with | some r => some (.agg r) | none => none
  | .tup cs => match killOL n cs with | some r => some (.tup r) | none => none
  | .own k T e rows => bif Nat.beq k n then some (.sl e rows) else some (.own k T e rows)
  | .fn f fs cs => match killOL n fs with
    | none => none
    | some a => match killOL n cs with | some b => some (.fn f a b) | none => none
  | .top => some .top
  | .v x => some (.v x)
  | .sl e rows => some (.sl e rows)
  | .ptr k o => some (.ptr k o)
  | .eptr cs => some (.eptr cs)
  | .arr k T e l => some (.arr k T e l)
def killOL (n : Nat) : List AV → Option (List AV)
  | [] => some []
  | x :: xs => match killO n x with
    | none => none
    | some y => match killOL n xs with | some r => some (y :: r) | none => none
end
mutual
theorem killO_eq {n : Nat} : ∀ (x : AV), killO n x = some (kill n x)
  | .agg cs => by simp only [killO, killOL_eq cs, kill]
  | .tup cs => by simp only [killO, killOL_eq cs, kill]
  | .own k T e rows => by simp only [killO, kill]; cases Nat.beq k n <;> rfl
  | .fn f a b => by simp only [killO, killOL_eq a, killOL_eq b, kill]
  | .top => by simp only [killO, kill]
  | .v x => by simp only [killO, kill]
  | .sl e rows => by simp only [killO, kill]
  | .ptr k o => by simp only [killO, kill]
  | .eptr cs => by simp only [killO, kill]
  | .arr k T e l => by simp only [killO, kill]
theorem killOL_eq {n : Nat} : ∀ (xs : List AV), killOL n xs = some (killL n xs)
  | [] => by simp only [killOL, killL]
  | x :: xs => by simp only [killOL, killO_eq x, killOL_eq xs, killL]
end
def killT (n : Nat) : List (Nat × AV) → List (Nat × AV)
  | [] => []
  | (k, x) :: r => (k, kill n x) :: killT n r
def killTO (n : Nat) : List (Nat × AV) → Option (List (Nat × AV))
  | [] => some []
  | (k, x) :: r => match killO n x with
    | none => none
    | some y => match killTO n r with | some s => some ((k, y) :: s) | none => none
theorem killTO_eq {n : Nat} : ∀ (l : List (Nat × AV)), killTO n l = some (killT n l)
  | [] => rfl
  | (k, x) :: r => by simp only [killTO, killO_eq x, killTO_eq r, killT]
def killB (n : Nat) : List (Nat × List AV) → List (Nat × List AV)
  | [] => []
  | (k, x) :: r => (k, killL n x) :: killB n r
def killBO (n : Nat) : List (Nat × List AV) → Option (List (Nat × List AV))
  | [] => some []
  | (k, x) :: r => match killOL n x with
    | none => none
    | some y => match killBO n r with | some s => some ((k, y) :: s) | none => none
theorem killBO_eq {n : Nat} : ∀ (l : List (Nat × List AV)), killBO n l = some (killB n l)
  | [] => rfl
  | (k, x) :: r => by simp only [killBO, killOL_eq x, killBO_eq r, killB]
theorem look_killT {n t : Nat} : ∀ (l : List (Nat × AV)), look (killT n l) t = kill n (look l t)
  | [] => by simp [killT, look, kill]
  | (k, x) :: r => by
    simp only [killT, look]
    cases Nat.beq k t
    · exact look_killT r
    · rfl
theorem mem_killB {n k : Nat} {ds : List AV} : ∀ {l : List (Nat × List AV)}, (k, ds) ∈ killB n l → ∃ cs, (k, cs) ∈ l ∧ ds = killL n cs
  | [], h => by simp [killB] at h
  | (j, x) :: r, h => by
    simp only [killB, List.mem_cons, Prod.mk.injEq] at h
    rcases h with ⟨rfl, rfl⟩ | h
    · exact ⟨x, by simp, rfl⟩
    · obtain ⟨cs, h1, h2⟩ := mem_killB h
      exact ⟨cs, by simp [h1], h2⟩
theorem mem_killB' {n k : Nat} {cs : List AV} : ∀ {l : List (Nat × List AV)}, (k, cs) ∈ l → (k, killL n cs) ∈ killB n l
  | [], h => by simp at h
  | (j, x) :: r, h => by
    simp only [killB, List.mem_cons, Prod.mk.injEq] at h ⊢
    rcases h with ⟨rfl, rfl⟩ | h
    · exact .inl ⟨rfl, rfl⟩
    · exact .inr (mem_killB' h)

section
variable {g g' : Gh} {w w' : World} {n : Nat}
mutual
theorem rep_kill (hI : ∀ b o, g.I b o → g'.I b o) (hk : Keeps g.I w w') (hm : ∀ k b, g.m k = some b → g'.m k = some b) (ht : g'.mt = g.mt)
    (ho : ∀ k T e rows y, k ≠ n → ownRep g w k T e rows y → ownRep g' w' k T e rows y) (hz : ∀ k b j, 7000000 ≤ k → g.m k = some b → Cap w b j → Cap w' b j) : ∀ {x : AV} {y : Value}, rep g w x y → rep g' w' (kill n x) y
  | .top, _, _ => by simp [kill, rep]
  | .v x, y, h => by simpa [kill, rep] using h
  | .agg cs, y, h => by
    simp only [rep, kill] at h ⊢
    obtain ⟨a, e, h⟩ := h
    exact ⟨a, e, reps_kill hI hk hm ht ho hz h⟩
  | .tup cs, y, h => by
    simp only [rep, kill] at h ⊢
    obtain ⟨a, e, h⟩ := h
    exact ⟨a, e, reps_kill hI hk hm ht ho hz h⟩
  | .sl e rows, y, h => by
    simp only [rep, kill] at h ⊢
    exact drep_mono hI hk h
  | .own k T e rows, y, h => by
    simp only [kill]
    cases hb : Nat.beq k n
    · simp only [cond_false, rep] at h ⊢
      exact ho k T e rows y (fun e => by subst e; simp at hb) h
    · simp only [cond_true, rep] at h ⊢
      exact drep_mono hI hk (drep_of_own h)
  | .ptr k off, y, h => by
    simp only [rep, kill] at h ⊢
    obtain ⟨b, h1, h2⟩ := h
    exact ⟨b, hm _ _ h1, h2⟩
  | .eptr cs, y, h => by
    simp only [rep, kill] at h ⊢
    obtain ⟨b, o, h1, h2⟩ := h
    exact ⟨b, o, h1, dcells_mono hI hk h2⟩
  | .fn f fs cs, y, h => by
    simp only [rep, kill] at h ⊢
    obtain ⟨a, b, h1, h2, h3⟩ := h
    exact ⟨a, b, h1, reps_kill hI hk hm ht ho hz h2, reps_kill hI hk hm ht ho hz h3⟩
  | .arr k T e len, y, h => by
    simp only [rep, kill] at h ⊢
    obtain ⟨b, c, h1, h2, h3, h4, h5, h6⟩ := h
    exact ⟨b, c, hm _ _ h1, by rw [ht]; exact h2, h3, h4, h5, fun h7 => ⟨(h6 h7).1, hz _ _ _ h7 h1 (h6 h7).2⟩⟩
theorem reps_kill (hI : ∀ b o, g.I b o → g'.I b o) (hk : Keeps g.I w w') (hm : ∀ k b, g.m k = some b → g'.m k = some b) (ht : g'.mt = g.mt)
    (ho : ∀ k T e rows y, k ≠ n → ownRep g w k T e rows y → ownRep g' w' k T e rows y) (hz : ∀ k b j, 7000000 ≤ k → g.m k = some b → Cap w b j → Cap w' b j) : ∀ {xs : List AV} {ys : List Value}, reps g w xs ys → reps g' w' (killL n xs) ys
  | [], ys, h => by simpa [killL, reps] using h
  | x :: xs, ys, h => by
    simp only [reps, killL] at h ⊢
    obtain ⟨y, zs, e, h1, h2⟩ := h
    exact ⟨y, zs, e, rep_kill hI hk hm ht ho hz h1, reps_kill hI hk hm ht ho hz h2⟩
end
end

structure Grown (g g' : Gh) (n : Nat) (w w' : World) (y' : Value) : Prop where
  m : g'.m = g.m
  ow : g'.ow = g.ow
  I : ∀ b o, g'.I b o → g.I b o ∨ y'.ownBlock = some b
  om : ∀ k b, g'.om k = some b → g.om k = some b ∨ y'.ownBlock = some b
  new : ∀ b, y'.ownBlock = some b → g.om n = some b ∨ (w.heap.size ≤ b ∧ b < w'.heap.size)
  os : w'.os = w.os
  tape : w'.tape = w.tape
  output : w'.output = w.output
  size : w.heap.size ≤ w'.heap.size
  block : ∀ k, k < w.heap.size → g.om n ≠ some k → w'.heap[k]? = w.heap[k]?
def EvW (g : Gh) (n : Nat) (es : Array Event) : Prop := ∀ e ∈ es, (∃ (a : Addr) (wr : Bool), e = ⟨.cell a, wr, false⟩ ∧ ((wr = false ∧ ∃ o, g.I a.block o) ∨ g.om n = some a.block)) ∨ ∃ k, e = ⟨.mark k, false, true⟩ ∧ Neutral k
theorem MemV.grown {E : En} {g g' : Gh} {bl bl' : List (Nat × List AV)} {ow : List Nat} {V : Rig} {w w' : World} {n : Nat} {y' : Value} {evs : Array Event} (h : MemV E g bl ow ⟨V, w⟩) (hn : g.ow n) (hG : Grown g g' n w w' y') (hk : Mem E g' bl' ow w') (he : EvW g n evs) :
    Guar V w w' evs ∧ MemV E g' bl' ow ⟨V.grow w.heap.size w'.heap.size, w'⟩ := by
  have hv := h.vis
  have hm := h.mem
  have mine : ∀ b, y'.ownBlock = some b → (V.grow w.heap.size w'.heap.size).mine b := fun b hb => (hG.new b hb).imp (hv.o n b hn) id
  have sub : ∀ b, (V.grow w.heap.size w'.heap.size).mine b → (V.grow w.heap.size w'.heap.size).vis b := fun b hb => hb.imp (hv.sub b) id
  refine ⟨Guar.of hG.os hG.tape hG.output hG.size (fun b hb hnm => hG.block b hb fun h5 => hnm (hv.o n b hn h5)) (fun e h1 => ?_), hk, { I := fun b o hb => ?_, m := fun k b hkb => ?_, o := fun k b h1 h2 => ?_, sub := sub, lt := fun b hb => hb.elim (fun h => Nat.lt_of_lt_of_le (hv.lt b h) hG.size) (·.2), up := fun b hb => .inl (hv.up b hb), upm := fun b hb => .inl (hv.upm b hb), dn := fun b hb => hb.elim (hv.dn b) (fun h => .inr (Nat.le_trans hm.base h.1)), dnm := fun b hb => hb.elim (hv.dnm b) (fun h => .inr (Nat.le_trans hm.base h.1)), nM := hv.nM, ext := hv.ext }⟩
  · rcases he e h1 with ⟨a, wr, rfl, h2 | h2⟩ | h2
    · obtain ⟨rfl, o, ho⟩ := h2
      exact .inl ⟨a, _, rfl, .inl ⟨hv.I _ o ho, fun h => by cases h⟩⟩
    · exact .inl ⟨a, _, rfl, .inl ⟨hv.sub _ (hv.o n _ hn h2), fun _ => hv.o n _ hn h2⟩⟩
    · exact .inr (.inl h2)
  · rcases hG.I b o hb with h1 | h1
    · exact .inl (hv.I b o h1)
    · exact sub b (mine b h1)
  · rw [hG.m] at hkb
    exact ⟨.inl (hv.m k b hkb).1, fun hr => .inl ((hv.m k b hkb).2 hr)⟩
  · rw [hG.ow] at h1
    rcases hG.om k b h2 with h3 | h3
    · exact .inl (hv.o k b h1 h3)
    · exact mine b h3
theorem ev_firstCells {P : Program} {B : Nat → Prop} {w : World} {size n : Nat} {x : Value} {es : Array Event} (hx : ∀ a l c, x = .slice (some a) l c → a.spot = none ∧ B a.block ∧ ∀ j, j < n * size → (w.cell? (a.add j)).isSome = true) (e : Event) (h : e ∈ (Builtin.firstCells size n x).events P w es) : e ∈ es ∨ ∃ a : Addr, e = ⟨.cell a, false, false⟩ ∧ B a.block := by
  unfold Builtin.firstCells at h
  split at h
  · rename_i a l c
    obtain ⟨h0, h1, h2⟩ := hx a l c rfl
    obtain ⟨b, o, sp⟩ := a
    simp only at h0 h1
    subst h0
    refine (ev_loadCells (P := P) (w := w) (b := b) (o := o) (n * size) 0 #[] es (fun j hj => ?_) e h).imp id fun ⟨a, h3, h4⟩ => ⟨a, h3, h4 ▸ h1⟩
    have := h2 j hj
    rw [addr_add] at this
    rw [Nat.zero_add]
    exact Option.isSome_iff_exists.1 this
  · exact .inl h
  · exact .inl h
  · exact .inl h
theorem ev_append {P : Program} (w : World) (base : Nat) (t ty e : TypeId) (i : TypeInfo) (z : Value) (size bytes : Nat) (ht : P.underlying t = some (.slice e)) (hi : P.info? e = some i) (hz : i.zero = some z)
    (hsize : i.size = size) (hby : i.bytes = bytes)
    (v : Value) (n : Nat) (xs : List Value) (hown : w.ownsRow base e size v n xs)
    (b2 o2 m c : Nat) (news : List Value) (hl : news.length = m * size) (hnews : ∀ j u, news[j]? = some u → w.cell? ((⟨b2, o2, none⟩ : Addr).add j) = some u) (h1 : ∀ u ∈ news, u.oneCell' = true)
    (h63 : n + m ≤ maxLen) (hbytes : (n + m) * bytes ≤ 140737488355328) :
    ∀ ev ∈ (Builtin.append_ #[t, t] ty #[v, .slice (some ⟨b2, o2, none⟩) m c]).events P w #[], (∃ (a : Addr) (wr : Bool), ev = ⟨.cell a, wr, false⟩ ∧ ((wr = false ∧ a.block = b2) ∨ v.ownBlock = some a.block)) ∨ ∃ m, ev = ⟨.mark m, false, true⟩ ∧ Neutral m := by
  subst hsize
  subst hby
  have hsmall : n + m ≤ 9223372036854775807 := by simp only [maxLen] at h63; omega
  let B : Nat → Prop := fun g => g = b2 ∨ v.ownBlock = some g
  have rd : ∀ ev : Event, (∃ a : Addr, ev = ⟨.cell a, false, false⟩ ∧ B a.block) → (∃ (a : Addr) (wr : Bool), ev = ⟨.cell a, wr, false⟩ ∧ ((wr = false ∧ a.block = b2) ∨ v.ownBlock = some a.block)) ∨ ∃ m, ev = ⟨.mark m, false, true⟩ ∧ Neutral m :=
    fun ev ⟨a, a1, a2⟩ => .inl ⟨a, false, a1, a2.imp (fun h => ⟨rfl, h⟩) id⟩
  have src : ∀ (w' : World), (∀ ad, w'.cell? ad = w.cell? ad) → ∀ a' l' c', Value.slice (some ⟨b2, o2, none⟩) m c = .slice (some a') l' c' → a'.spot = none ∧ B a'.block ∧ ∀ j, j < m * i.size → (w'.cell? (a'.add j)).isSome = true := by
    intro w' hw' a' l' c' e
    cases e
    exact ⟨rfl, .inl rfl, fun j hj => by rw [hw']; exact isSome_of_list hnews (by rw [hl]; exact hj)⟩
  have nil : ∀ (w' : World) (k sz l₀ c₀ : Nat) a' l' c', Value.slice none l₀ c₀ = .slice (some a') l' c' → a'.spot = none ∧ B a'.block ∧ ∀ j, j < k * sz → (w'.cell? (a'.add j)).isSome = true := by
    intro _ _ _ _ _ _ _ _ e; cases e
  intro ev hev
  rcases hown.2 with ⟨rfl, rfl⟩ | ⟨g, cap, cur, rfl, hbg, hg, hnc, hcm, hcs, htake⟩
  · by_cases hm : m = 0
    · subst hm
      simp [Builtin.append_, run_underlying ht, sizeOf, typeInfo, hi, Builtin.lenOf] at hev
      exact (ev_firstCells (B := B) (by first | exact src _ (fun _ => rfl) | exact nil _ _ _ _ _) ev hev).elim (fun h => by simp at h) (rd ev)
    · have h63' : ¬ (9223372036854775807 < (m : Int)) := by omega
      have h48' : ¬ (281474976710656 < Builtin.nextslicecap m 0 * i.bytes) := by rw [nextslicecap_zero (by omega)]; simp only [Nat.zero_add] at hbytes; omega
      have hf := run_firstCells_some (P := P) w.drew i.size m ⟨b2, o2, none⟩ m c news hl (by simpa using hnews)
      simp [Builtin.append_, run_underlying ht, sizeOf, typeInfo, zeroValue, hi, hz, Builtin.lenOf, hm, h63', h48', Question.forced, run_firstCells_none, hf, newRow] at hev
      refine (ev_firstCells (B := B) (by first | exact src _ (fun _ => rfl) | exact nil _ _ _ _ _) ev hev).elim (fun h => ?_) (rd ev)
      refine (ev_firstCells (B := B) (by first | exact src _ (fun _ => rfl) | exact nil _ _ _ _ _) ev h).elim (fun h2 => ?_) (rd ev)
      exact (Conc.events_askRoom _ _ _ ev h2).elim (fun h => by simp at h) .inr
  · have holds : ∀ j u, xs[j]? = some u → w.cell? ((⟨g, 0, none⟩ : Addr).add j) = some u := hown.cells (g := g) rfl
    have own : ∀ (w' : World), (∀ ad, w'.cell? ad = w.cell? ad) → ∀ a' l' c', Value.slice (some ⟨g, 0, none⟩) n cap = .slice (some a') l' c' → a'.spot = none ∧ B a'.block ∧ ∀ j, j < n * i.size → (w'.cell? (a'.add j)).isSome = true := by
      intro w' hw' a' l' c' e
      cases e
      exact ⟨rfl, .inr (by simp [Value.ownBlock]), fun j hj => by rw [hw']; exact isSome_of_list holds (by rw [hown.1]; exact hj)⟩
    by_cases hroom : n + m ≤ cap
    · have hfit : n * i.size + news.length ≤ cur.size := by rw [hl, hcs, ← Nat.add_mul]; exact Nat.mul_le_mul_right _ hroom
      have hf := run_firstCells_some (P := P) w i.size m ⟨b2, o2, none⟩ m c news hl hnews
      simp [Builtin.append_, run_underlying ht, sizeOf, typeInfo, hi, Builtin.lenOf, hroom, hf, addr_add] at hev
      rcases ev_storeCells (P := P) g (n * i.size) e news 0 cur w _ hg (by simpa using hfit) h1 ev hev with h | ⟨ad, h2, h3⟩
      · exact (ev_firstCells (B := B) (by first | exact src _ (fun _ => rfl) | exact own _ (fun _ => rfl)) ev h).elim (fun h => by simp at h) (rd ev)
      · exact .inl ⟨ad, true, h2, .inr (by simp [Value.ownBlock, h3])⟩
    · have hn : ¬ (n + m ≤ cap) := hroom
      have h63' : ¬ (9223372036854775807 < ((n : Int) + (m : Int))) := by omega
      have h48' : ¬ (281474976710656 < Builtin.nextslicecap (n + m) cap * i.bytes) := by have := growslice_fits (need := n + m) (old := cap) (bytes := i.bytes) (by omega) hbytes; omega
      have hf := run_firstCells_some (P := P) w.drew i.size m ⟨b2, o2, none⟩ m c news hl (by simpa using hnews)
      have hfo := run_firstCells_some (P := P) w.drew i.size n ⟨g, 0, none⟩ n cap xs hown.1 (by simpa using holds)
      simp [Builtin.append_, run_underlying ht, sizeOf, typeInfo, zeroValue, hi, hz, Builtin.lenOf, hn, h63', h48', Question.forced, hf, hfo, newRow] at hev
      refine (ev_firstCells (B := B) (by first | exact src _ (fun _ => rfl) | exact own _ (fun _ => rfl)) ev hev).elim (fun h => ?_) (rd ev)
      refine (ev_firstCells (B := B) (by first | exact src _ (fun _ => rfl) | exact own _ (fun _ => rfl)) ev h).elim (fun h2 => ?_) (rd ev)
      exact (Conc.events_askRoom _ _ _ ev h2).elim (fun h => by simp at h) .inr

theorem Mem.grown {E : En} {g : Gh} {bl : List (Nat × List AV)} {ow : List Nat} {w w' : World} (h : Mem E g bl ow w) {n T e : Nat} {rows rows' : List (List AV)} {y y' : Value} (hy : ownRep g w n T e rows y) {xs' : List Value}
    (h1 : w'.os = w.os) (h2 : w'.tape = w.tape) (h3 : w'.output = w.output) (h4 : w.heap.size ≤ w'.heap.size) (hblk : ∀ k, k < w.heap.size → g.om n ≠ some k → w'.heap[k]? = w.heap[k]?)
    (hkeep : ∀ b o, g.om n = some b → o < rows.length * e → w'.cell? ⟨b, o, none⟩ = w.cell? ⟨b, o, none⟩) (hnew : ∀ b, y'.ownBlock = some b → g.om n = some b ∨ w.heap.size ≤ b)
    (hr : w'.ownsRow 0 T e y' rows'.length xs') (hd : dreps g.I w rows'.flatten xs') (hl : ∀ r ∈ rows', r.length = e) (hlen : rows.length ≤ rows'.length) :
    ∃ g', (∀ x v, rep g w x v → rep g' w' (kill n x) v) ∧ Mem E g' (killB n bl) ow w' ∧ ownRep g' w' n T e rows' y' ∧ Grown g g' n w w' y' := by
  obtain ⟨hw, hob, xs, hown, hdr, hl0, hIn⟩ := hy
  let g' : Gh := { g with I := fun b o => g.I b o ∨ (y'.ownBlock = some b ∧ o < rows'.length * e), om := fun k => if k = n then y'.ownBlock else g.om k }
  have hIlt : ∀ b o, g.I b o → b < w.heap.size := fun b o hb => cell_lt (h.cell b o hb)
  have hmul : rows.length * e ≤ rows'.length * e := Nat.mul_le_mul_right _ hlen
  have keeps : Keeps g.I w w' := fun b o hb => by
    by_cases hn : g.om n = some b
    · refine hkeep b o hn ?_
      rcases Nat.lt_or_ge o (rows.length * e) with h5 | h5
      · exact h5
      · exact ((hIn b hn).2 o h5 hb).elim
    · exact World.cell?_of_block (a := ⟨b, o, none⟩) (hblk b (hIlt b o hb) hn)
  have hI : ∀ b o, g.I b o → g'.I b o := fun b o hb => .inl hb
  have hob' : ∀ k b, g.ow k → g'.om k = some b → (k = n ∧ y'.ownBlock = some b) ∨ (k ≠ n ∧ g.om k = some b) := fun k b _ h5 => by
    by_cases hk : k = n
    · simp only [g', hk, if_true] at h5; exact .inl ⟨hk, h5⟩
    · simp only [g', hk, if_false] at h5; exact .inr ⟨hk, h5⟩
  have ho : ∀ k T e rows y, k ≠ n → ownRep g w k T e rows y → ownRep g' w' k T e rows y := fun k T0 e0 rows0 y0 hk hy0 => by
    obtain ⟨q1, q2, ys, q3, q4, q5, q6⟩ := hy0
    have hom : g'.om k = g.om k := by simp only [g', hk, if_false]
    refine ⟨q1, by rw [hom]; exact q2, ys, ownsRow_of_heap q3 fun b hb => hblk b (ownsRow_lt q3 hb) fun h5 => hk (h.oinj k n b q1 hw (by rw [← q2]; exact hb) h5), dreps_mono hI keeps q4, q5, fun b hb => ?_⟩
    rw [hom] at hb
    refine ⟨fun o h5 => .inl ((q6 b hb).1 o h5), fun o h5 h6 => ?_⟩
    rcases h6 with h6 | ⟨h6, _⟩
    · exact (q6 b hb).2 o h5 h6
    · rcases hnew b h6 with h7 | h7
      · exact hk (h.oinj k n b q1 hw hb h7)
      · have := (h.ofr k b q1 hb).2; omega
  have hz : ∀ k b j, 7000000 ≤ k → g.m k = some b → Cap w b j → Cap w' b j := fun k b j _ hk hc => hc.same (hblk b hc.lt fun h5 => h.disj k n b hk hw h5)
  have hrep : ∀ x v, rep g w x v → rep g' w' (kill n x) v := fun x v hx => rep_kill hI keeps (fun _ _ h => h) rfl ho hz hx
  have hgr : Grown g g' n w w' y' := ⟨rfl, rfl, fun b o hb => hb.imp id (·.1), fun k b hb => by
    by_cases hk : k = n
    · simp only [g', hk, if_true] at hb; exact .inr hb
    · simp only [g', hk, if_false] at hb; exact .inl hb, fun b hb => (hnew b hb).imp id fun h => ⟨h, ownsRow_lt hr hb⟩, h1, h2, h3, h4, hblk⟩
  refine ⟨g', hrep, ?_, ⟨hw, by simp only [g', if_true], xs', hr, dreps_mono hI keeps hd, hl, fun b hb => ?_⟩, hgr⟩
  · refine { below := ⟨h1.trans h.below.os, h2.trans h.below.tape, h3.trans h.below.output, Nat.le_trans h.below.size h4, fun k hk hM => (hblk k (Nat.lt_of_lt_of_le hk h.base) fun h5 => ?_).trans (h.below.block k hk hM)⟩,
             base := Nat.le_trans h.base h4, cell := fun b o hb => ?_, mfr := fun k b hk => ⟨(h.mfr k b hk).1, Nat.lt_of_lt_of_le (h.mfr k b hk).2 h4⟩, ofr := fun k b k1 k2 => ?_, minj := h.minj, oinj := fun k k' b k1 k1' k2 k2' => ?_, disj := fun k k' b k1 k2 k3 => ?_,
             blk := fun k ds hk => ?_, key := fun k b hk => ?_, own := h.own, inew := fun b o hb => ?_, iold := fun b o hb => .inl (h.iold b o hb), pin := h.pin }
    · exact (h.ofr n k hw h5).1.elim (fun h => by omega) hM
    · rcases hb with hb | ⟨hb, ho⟩
      · rw [keeps b o hb]; exact h.cell b o hb
      · rcases hr.2 with ⟨rfl, _⟩ | ⟨b', cap, cur, rfl, _, q1, q2, q3, q4, q5⟩
        · simp [Value.ownBlock] at hb
        · simp only [Value.ownBlock, Option.some.injEq] at hb
          subst hb
          rw [cell_of_heap q1]
          have : rows'.length * e ≤ cap * e := Nat.mul_le_mul_right _ q2
          rw [Array.getElem?_eq_getElem (by omega)]; rfl
    · rcases hob' k b k1 k2 with ⟨rfl, k3⟩ | ⟨_, k3⟩
      · refine ⟨?_, ownsRow_lt hr k3⟩
        rcases hnew b k3 with k4 | k4
        · exact (h.ofr k b k1 k4).1
        · exact .inl (Nat.le_trans h.base k4)
      · exact ⟨(h.ofr k b k1 k3).1, Nat.lt_of_lt_of_le (h.ofr k b k1 k3).2 h4⟩
    · rcases hob' k b k1 k2 with ⟨rfl, k3⟩ | ⟨hk, k3⟩ <;> rcases hob' k' b k1' k2' with ⟨rfl, k4⟩ | ⟨hk', k4⟩
      · rfl
      · rcases hnew b k3 with k5 | k5
        · exact h.oinj _ _ b k1 k1' k5 k4
        · have := (h.ofr k' b k1' k4).2; omega
      · rcases hnew b k4 with k5 | k5
        · exact h.oinj _ _ b k1 k1' k3 k5
        · have := (h.ofr k b k1 k3).2; omega
      · exact h.oinj _ _ b k1 k1' k3 k4
    · rcases hob' k' b k2 k3 with ⟨rfl, k4⟩ | ⟨_, k4⟩
      · rcases hnew b k4 with k5 | k5
        · exact h.disj k _ b k1 k2 k5
        · have := (h.mfr k b k1).2; omega
      · exact h.disj k k' b k1 k2 k4
    · obtain ⟨cs, k1, rfl⟩ := mem_killB hk
      obtain ⟨b, arr, q1, q2, q3, q4⟩ := h.blk k cs k1
      refine ⟨b, arr, q1, (hblk b (h.mfr k b q1).2 fun h5 => h.disj k n b q1 hw h5).trans q2, reps_kill hI keeps (fun _ _ h => h) rfl ho hz q3, fun o h5 => ?_⟩
      rcases h5 with h5 | ⟨h5, _⟩
      · exact q4 o h5
      · rcases hnew b h5 with h6 | h6
        · exact h.disj k n b q1 hw h6
        · have := (h.mfr k b q1).2; omega
    · obtain ⟨cs, k1⟩ := h.key k b hk
      exact ⟨_, mem_killB' k1⟩
    · rcases hb with hb | ⟨hb, _⟩
      · exact h.inew b o hb
      · rcases hnew b hb with h5 | h5
        · exact .inr (h.ofr n b hw h5).1
        · exact .inr (.inl (Nat.le_trans h.base h5))
  · simp only [g', if_true] at hb
    refine ⟨fun o h5 => .inr ⟨hb, h5⟩, fun o h5 h6 => ?_⟩
    rcases h6 with h6 | ⟨_, h6⟩
    · rcases hnew b hb with h7 | h7
      · exact (hIn b h7).2 o (by omega) h6
      · have := hIlt b o h6; omega
    · omega

theorem Mem.nilOwn {E : En} {g : Gh} {bl : List (Nat × List AV)} {ow : List Nat} {w : World} (h : Mem E g bl ow w) (n T e : Nat) (hn : n ∉ ow) : ∃ g', Goes g w g' w ∧ Mem E g' bl (n :: ow) w ∧ ownRep g' w n T e [] (.slice none 0 0) ∧ g'.I = g.I ∧ g'.m = g.m ∧ ∀ k b, g'.ow k → g'.om k = some b → g.ow k ∧ g.om k = some b := by
  have hno : ¬ g.ow n := fun hw => hn (h.own n hw)
  let g' : Gh := { g with ow := fun k => k = n ∨ g.ow k, om := fun k => if k = n then none else g.om k }
  have hob : ∀ k b, g'.ow k → g'.om k = some b → g.ow k ∧ g.om k = some b := fun k b h1 h2 => by
    by_cases hk : k = n
    · simp only [g', hk, if_true] at h2; cases h2
    · simp only [g', hk, if_false, false_or] at h1 h2; exact ⟨h1, h2⟩
  have how : ∀ k, g.ow k → g'.ow k ∧ g'.om k = g.om k := fun k hk => ⟨.inr hk, by
    have : k ≠ n := fun e => hno (e ▸ hk)
    simp only [g', this, if_false]⟩
  have goes : Goes g w g' w := ⟨fun _ _ h => h, fun _ _ _ => rfl, fun _ _ h => h, fun _ _ _ => rfl, fun k T0 e0 rows y hy => ownRep_goes (g := g) (g' := g') (fun _ _ h => h) (fun _ _ _ => rfl) how (fun _ _ _ _ => rfl) (fun _ _ _ _ _ h => h) hy, fun _ _ _ _ _ h => h⟩
  refine ⟨g', goes, ⟨h.below, h.base, h.cell, h.mfr, fun k b k1 k2 => h.ofr k b (hob k b k1 k2).1 (hob k b k1 k2).2, h.minj, fun k k' b k1 k1' k2 k2' => h.oinj k k' b (hob k b k1 k2).1 (hob k' b k1' k2').1 (hob k b k1 k2).2 (hob k' b k1' k2').2,
    fun k k' b k1 k2 k3 => h.disj k k' b k1 (hob k' b k2 k3).1 (hob k' b k2 k3).2, fun k cs hk => ?_, h.key, fun k hk => ?_, h.inew, h.iold, h.pin⟩, ⟨.inl rfl, by simp only [g', if_true]; rfl, [], ⟨by simp, .inl ⟨rfl, rfl⟩⟩, by simp [dreps], by simp, fun b hb => by simp only [g', if_true] at hb; cases hb⟩, rfl, rfl, hob⟩
  · obtain ⟨b, arr, q1, q2, q3, q4⟩ := h.blk k cs hk
    exact ⟨b, arr, q1, q2, reps_goes goes q3, q4⟩
  · rcases hk with rfl | hk
    · simp
    · exact List.mem_cons_of_mem _ (h.own k hk)

theorem drows_flat {I : Nat → Nat → Prop} {w : World} {rows : List (List AV)} {e b o : Nat} (h : drows I w e b o rows) : ∃ zs, dreps I w rows.flatten zs ∧ zs.length = rows.length * e ∧ ∀ j z, zs[j]? = some z → w.cell? ⟨b, o + j, none⟩ = some z := by
  obtain ⟨h1, h2⟩ := drows_iff.1 h
  obtain ⟨zs, g1, g2, g3⟩ := dcells_list h2
  exact ⟨zs, g1, by rw [g2, flatten_length h1], fun j z hz => (g3 j z hz).1⟩
theorem cells_one {g : Gh} {w : World} : ∀ {xs : List AV} {ys : List Value}, dreps g.I w xs ys → (∀ x ∈ xs, isCell x = true) → ∀ u ∈ ys, u.oneCell' = true
  | [], ys, h, _, u, hu => by simp only [dreps] at h; subst h; simp at hu
  | x :: xs, ys, h, hc, u, hu => by
    simp only [dreps] at h
    obtain ⟨z, zs, rfl, k1, k2⟩ := h
    rcases List.mem_cons.1 hu with rfl | hu
    · exact oneCell_of (rep_of_drep k1) (hc x (by simp))
    · exact cells_one k2 (fun x hx => hc x (by simp [hx])) u hu

theorem drows_seen {I : Nat → Nat → Prop} {w : World} {e b o : Nat} (he : 0 < e) : ∀ {rows : List (List AV)}, rows ≠ [] → drows I w e b o rows → ∃ o', I b o' := by
  intro rows hz h
  obtain ⟨h1, h2⟩ := drows_iff.1 h
  obtain ⟨zs, _, g2, g3⟩ := dcells_list h2
  match rows, hz with
  | r :: rows, _ =>
    have hr : r.length = e := h1 r (by simp)
    have hlt : 0 < zs.length := by rw [g2]; simp; omega
    exact ⟨_, (g3 0 _ (List.getElem?_eq_getElem hlt)).2⟩
theorem append_own {E : En} {g : Gh} {bl : List (Nat × List AV)} {ow : List Nat} {w : World} (hm : Mem E g bl ow w) {t n T e by_ ty : Nat} [hs : SlOk E.P t T e by_] {rows rows2 : List (List AV)} {y u : Value} (hy : ownRep g w n T e rows y) (hu : drep g.I w (.sl e rows2) u)
    (hcell : ∀ x ∈ rows2.flatten, isCell x = true) (hl2 : ∀ r ∈ rows2, r.length = e) (hl : rows.length + rows2.length ≤ 1048576) (hb : Nat.ble by_ 134217728 = true) :
    ∃ y' w' g', (Builtin.append_ #[t, t] ty #[y, u]).run E.P w = .ok y' w' ∧ (∀ x v, rep g w x v → rep g' w' (kill n x) v) ∧ Mem E g' (killB n bl) ow w' ∧ ownRep g' w' n T e (rows ++ rows2) y' ∧ Grown g g' n w w' y' ∧ EvW g n ((Builtin.append_ #[t, t] ty #[y, u]).events E.P w #[]) := by
  obtain ⟨in0, iz, i1, i2, i3, i4, i5⟩ := hs.info
  have hb := Nat.le_of_ble_eq_true hb
  have hbytes : (rows.length + rows2.length) * by_ ≤ 140737488355328 := Nat.le_trans (Nat.mul_le_mul hl hb) (by decide)
  have hmax : rows.length + rows2.length ≤ maxLen := by unfold maxLen; omega
  have hy0 := hy
  obtain ⟨hw, hob, xs, hown, hdr, hl0, hIn⟩ := hy
  have hlr : ∀ r ∈ rows ++ rows2, r.length = e := fun r hr => by
    rcases List.mem_append.1 hr with hr | hr
    · exact hl0 r hr
    · exact hl2 r hr
  simp only [drep] at hu
  obtain ⟨A, c, rfl, hA, hc⟩ := hu
  by_cases hz : rows2 = []
  · subst hz
    have hrun : (Builtin.append_ #[t, t] ty #[y, .slice A 0 c]).run E.P w = .ok y w := by
      rcases hown.2 with ⟨rfl, _⟩ | ⟨g0, cap, cur, rfl, _, _, hnc, _⟩
      · simp [Builtin.append_, run_underlying hs.und, sizeOf, typeInfo, i1, Builtin.lenOf, Builtin.firstCells]
        try (cases A <;> simp [loadCells, loadCellsFrom])
      · simp [Builtin.append_, run_underlying hs.und, sizeOf, typeInfo, i1, Builtin.lenOf, Builtin.firstCells, hnc]
        try (cases A <;> simp [loadCells, loadCellsFrom, storeCells])
    have hevs : (Builtin.append_ #[t, t] ty #[y, .slice A 0 c]).events E.P w #[] = #[] := by
      rcases hown.2 with ⟨rfl, _⟩ | ⟨g0, cap, cur, rfl, _, _, hnc, _⟩
      · simp [Builtin.append_, run_underlying hs.und, sizeOf, typeInfo, i1, Builtin.lenOf, Builtin.firstCells]
        try (cases A <;> simp [loadCells, loadCellsFrom])
      · simp [Builtin.append_, run_underlying hs.und, sizeOf, typeInfo, i1, Builtin.lenOf, Builtin.firstCells, hnc]
        try (cases A <;> simp [loadCells, loadCellsFrom, storeCells])
    obtain ⟨g', k1, k2, k3, k4⟩ := hm.grown (rows' := rows) (y' := y) (w' := w) hy0 rfl rfl rfl (Nat.le_refl _) (fun _ _ _ => rfl) (fun _ _ _ _ => rfl) (fun b hb => .inl (by rw [← hob]; exact hb)) hown hdr hl0 (Nat.le_refl _)
    exact ⟨y, w, g', hrun, k1, k2, by rw [List.append_nil]; exact k3, k4, by rw [show (List.length ([] : List (List AV))) = 0 from rfl, hevs]; exact fun e he => by simp at he⟩
  · obtain ⟨b2, o2, rfl, hrows⟩ := hA.resolve_left hz
    obtain ⟨news, n1, n2, n3⟩ := drows_flat hrows
    have hnews : ∀ j z, news[j]? = some z → w.cell? ((⟨b2, o2, none⟩ : Addr).add j) = some z := fun j z hj => by rw [addr_add]; exact n3 j z hj
    have hone := cells_one n1 hcell
    have hd' : dreps g.I w (rows ++ rows2).flatten (xs ++ news) := by rw [List.flatten_append]; exact dreps_append hdr n1
    have hlen : (rows ++ rows2).length = rows.length + rows2.length := List.length_append
    have grows : (∃ v' w', (Builtin.append_ #[t, t] ty #[y, .slice (some ⟨b2, o2, none⟩) rows2.length c]).run E.P w = .ok v' w' ∧ w'.ownsRow w.heap.size T e v' (rows.length + rows2.length) (xs ++ news) ∧ w.grownBy w' none) →
        ∃ y' w' g', (Builtin.append_ #[t, t] ty #[y, .slice (some ⟨b2, o2, none⟩) rows2.length c]).run E.P w = .ok y' w' ∧ (∀ x v, rep g w x v → rep g' w' (kill n x) v) ∧ Mem E g' (killB n bl) ow w' ∧ ownRep g' w' n T e (rows ++ rows2) y' ∧ Grown g g' n w w' y' := by
      rintro ⟨v', w', r1, r2, r3⟩
      obtain ⟨g', k1, k2, k3, k4⟩ := hm.grown (rows' := rows ++ rows2) (y' := v') (w' := w') hy0 r3.os r3.tape r3.output r3.size (fun k hk _ => r3.block k hk (by simp)) (fun b o hb _ => World.cell?_of_block (a := ⟨b, o, none⟩) (r3.block b (hm.ofr n b hw hb).2 (by simp)))
        (fun b hb => .inr (by
          rcases r2.2 with ⟨rfl, _⟩ | ⟨b', cap, cur, rfl, q0, _⟩
          · simp [Value.ownBlock] at hb
          · simp only [Value.ownBlock, Option.some.injEq] at hb
            omega))
        (by
          rw [hlen]
          refine ⟨r2.1, ?_⟩
          rcases r2.2 with q | ⟨b', cap, cur, q1, q0, q2⟩
          · exact .inl q
          · exact .inr ⟨b', cap, cur, q1, Nat.zero_le _, q2⟩) hd' hlr (by rw [hlen]; omega)
      exact ⟨v', w', g', r1, k1, k2, k3, k4⟩
    have hevs : EvW g n ((Builtin.append_ #[t, t] ty #[y, .slice (some ⟨b2, o2, none⟩) rows2.length c]).events E.P w #[]) := fun ev1 he => by
      rcases ev_append (P := E.P) w 0 t ty T in0 iz e by_ hs.und i1 i2 i3 i4 y rows.length xs hown b2 o2 rows2.length c news n2 hnews hone hmax hbytes ev1 he with ⟨a, wr, h1, h2 | h2⟩ | h1
      · obtain ⟨rfl, h2⟩ := h2
        refine .inl ⟨a, _, h1, .inl ⟨rfl, ?_⟩⟩
        rw [h2]
        exact drows_seen hs.pos hz hrows
      · exact .inl ⟨a, _, h1, .inr (by rw [← hob]; exact h2)⟩
      · exact .inr h1
    suffices hmain : ∃ y' w' g', (Builtin.append_ #[t, t] ty #[y, .slice (some ⟨b2, o2, none⟩) rows2.length c]).run E.P w = .ok y' w' ∧ (∀ x v, rep g w x v → rep g' w' (kill n x) v) ∧ Mem E g' (killB n bl) ow w' ∧ ownRep g' w' n T e (rows ++ rows2) y' ∧ Grown g g' n w w' y' by
      obtain ⟨y', w', g', q1, q2, q3, q4, q5⟩ := hmain
      exact ⟨y', w', g', q1, q2, q3, q4, q5, hevs⟩
    rcases hown.2 with ⟨rfl, h0⟩ | ⟨b, cap, cur, rfl, _, q1, q2, q3, q4, q5⟩
    · have h00 : rows = [] := List.length_eq_zero_iff.1 h0
      subst h00
      have hx : xs = [] := by have := hown.1; simpa using this
      subst hx
      refine grows ?_
      obtain ⟨v', w', r1, r2, r3, _⟩ := run_append_own (P := E.P) w w.heap.size t ty T in0 iz e by_ hs.und i1 i2 i3 i4 i5 hs.pos (.slice none 0 0) 0 [] ⟨by simp, .inl ⟨rfl, rfl⟩⟩ ⟨b2, o2, none⟩ rows2.length c news n2 hnews hone (by simpa using hmax) (by simpa using hbytes) (Nat.le_refl _)
      exact ⟨v', w', r1, by simpa using r2, r3⟩
    · by_cases hroom : rows.length + rows2.length ≤ cap
      · obtain ⟨w', r1, r2, r3⟩ := run_append_fits (P := E.P) w 0 t ty T in0 e hs.und i1 i3 b rows.length cap xs hown ⟨b2, o2, none⟩ rows2.length c news n2 hnews hone hroom
        have hob' : g.om n = some b := hob.symm
        obtain ⟨g', k1, k2, k3, k4⟩ := hm.grown (rows' := rows ++ rows2) (y' := .slice (some ⟨b, 0, none⟩) (rows.length + rows2.length) cap) (w' := w') hy0 r3.os r3.tape r3.output r3.size (fun k hk h5 => r3.block k hk fun h6 => h5 (by rw [hob', h6]))
          (fun b' o h5 h6 => by
            rw [hob'] at h5
            cases h5
            rw [World.ownsRow.cellAt r2 o (Nat.lt_of_lt_of_le h6 (Nat.mul_le_mul_right _ (by omega))), World.ownsRow.cellAt hown o h6, List.getElem?_append_left (by rw [hown.1]; exact h6)])
          (fun b' hb' => .inl (by rw [hob']; exact hb')) (by rw [hlen]; exact r2) hd' hlr (by rw [hlen]; omega)
        exact ⟨_, w', g', r1, k1, k2, k3, k4⟩
      · refine grows ?_
        have holds : ∀ j z, xs[j]? = some z → w.cell? ((⟨b, 0, none⟩ : Addr).add j) = some z := hown.cells (g := b) rfl
        exact run_append_arg_grows (P := E.P) w t ty T in0 iz e by_ hs.und i1 i2 i3 i4 i5 hs.pos ⟨b, 0, none⟩ rows.length cap xs hown.1 holds ⟨b2, o2, none⟩ rows2.length c news n2 hnews (by omega) hmax hbytes

section
variable {E : En} {ops : Array Oper} {rest : List Oper} {Q : Exit → St → Prop} {tm tm1 : List (Nat × AV)} {bl bl1 : List (Nat × List AV)} {ow : List Nat} {d : Nat} {ty : TypeId} {pos : String} {af : Array Edge}
theorem WL_append {x y : Operand} {t : Nat} {s : St} (h : ∀ (L : Lg E.P) (g : Gh) (a : Act) (V : Rig) (w : World), Inv E g s a ⟨V, w⟩ → ∃ y' w', (Builtin.append_ #[t, t] ty #[a.eval x, a.eval y]).run E.P w = .ok y' w' ∧ Guar V w w' ((Builtin.append_ #[t, t] ty #[a.eval x, a.eval y]).events E.P w #[]) ∧
      wpListV L ops (post E Q) rest (a.put (some d) y') ⟨V.grow w.heap.size w'.heap.size, w'⟩) : WL E ops (⟨some d, .call ⟨.builtin .append, #[x, y], #[t, t]⟩, ty, pos, af, none⟩ :: rest) Q s := by
  intro L g a w0 hi0
  unfold wpListV
  rw [show Region.wanted ⟨some d, .call ⟨.builtin .append, #[x, y], #[t, t]⟩, ty, pos, af, none⟩ (yielded ops a.tmps) = true by simp [Region.wanted], if_pos rfl]
  intro w₁ r
  obtain ⟨y', w', r1, r2, r3⟩ := h L g a w0.V w₁ (hi0.rely r)
  have hrun : (execOp a.eval ⟨some d, .call ⟨.builtin .append, #[x, y], #[t, t]⟩, ty, pos, af, none⟩).run E.P w₁ = .ok (.value y') w' := by
    simp [execOp, resolve, invoke, builtin, r1]
  have hevs := events_append_op (P := E.P) (o := ⟨some d, .call ⟨.builtin .append, #[x, y], #[t, t]⟩, ty, pos, af, none⟩) (a := a) (w := w₁) x y t rfl rfl rfl #[]
  rw [hrun, hevs]
  exact ⟨r2, r3⟩
theorem wapp {x y : Operand} {t n T e by_ : Nat} {rows rows2 : List (List AV)} {yv : AV} [hs : SlOk E.P t T e by_] (hx : ev tm x = .own n T e rows) (hy : ev tm y = yv) (hr : arows yv = some (e, rows2)) (hcell : ∀ x ∈ rows2.flatten, isCell x = true) (hl2 : ∀ r ∈ rows2, r.length = e) (hl : rows.length + rows2.length ≤ 1048576) (hb : Nat.ble by_ 134217728 = true) (hd : Nat.blt d E.nt = true)
    (ht : killTO n tm = some tm1) (hbl : killBO n bl = some bl1) (hk : WL E ops rest Q ⟨(d, .own n T e (rows ++ rows2)) :: tm1, bl1, ow⟩) : WL E ops (⟨some d, .call ⟨.builtin .append, #[x, y], #[t, t]⟩, ty, pos, af, none⟩ :: rest) Q ⟨tm, bl, ow⟩ := by
  refine WL_append fun L g a V w hi => ?_
  have h1 := rep_ev hi.tm x
  have h2 := rep_ev hi.tm y
  rw [hx] at h1; rw [hy] at h2
  simp only [rep] at h1
  obtain ⟨y', w', g', r1, r2, r3, r4, r5, r6⟩ := append_own (t := t) (ty := ty) hi.mem.mem h1 (drep_arows h2 hr) hcell hl2 hl hb
  rw [killTO_eq] at ht
  rw [killBO_eq] at hbl
  cases ht
  cases hbl
  obtain ⟨q1, q2⟩ := hi.mem.grown h1.1 r5 r3 r6
  refine ⟨y', w', r1, q1, ?_⟩
  have hi' : Inv E g' ⟨killT n tm, killB n bl, ow⟩ a ⟨V.grow w.heap.size w'.heap.size, w'⟩ := ⟨q2, fun t => by rw [look_killT]; exact r2 _ _ (hi.tm t), hi.de, hi.sz⟩
  have := hi'.app (d := some d) (v := .own n T e (rows ++ rows2)) (y := y') (nb := []) (no := []) (fun k hk => by cases hk; exact Nat.le_of_ble_eq_true hd) (Goes.refl _ _) (by simpa using q2) (by simp only [rep]; exact r4)
  exact hk L g' _ _ this
theorem wappE {x y : Operand} {t n T e by_ : Nat} {rows rows2 out : List (List AV)} {yv : AV} [hs : SlOk E.P t T e by_] (hx : ev tm x = .own n T e rows) (hy : ev tm y = yv) (hr : arows yv = some (e, rows2)) (hcell : ∀ x ∈ rows2.flatten, isCell x = true) (hl2 : ∀ r ∈ rows2, r.length = e) (hl : rows.length + rows2.length ≤ 1048576) (hb : Nat.ble by_ 134217728 = true) (hd : Nat.blt d E.nt = true)
    (ho : rows ++ rows2 = out) (ht : killTO n tm = some tm1) (hbl : killBO n bl = some bl1) (hk : WL E ops rest Q ⟨(d, .own n T e out) :: tm1, bl1, ow⟩) : WL E ops (⟨some d, .call ⟨.builtin .append, #[x, y], #[t, t]⟩, ty, pos, af, none⟩ :: rest) Q ⟨tm, bl, ow⟩ := by
  subst ho
  exact wapp hx hy hr hcell hl2 hl hb hd ht hbl hk
end

/- A result whose slices are seen as data. -/
mutual
def datO : AV → Option AV
  | .agg cs => match datOL cs with | some r => some (.agg r) | none => none
  | .tup cs => match datOL cs with | some r => some (.tup r) | none => none
  | .own _ _ e rows => some (.sl e rows)
  | x => some x
def datOL : List AV → Option (List AV)
  | [] => some []
  | x :: xs => match datO x with
    | none => none
    | some y => match datOL xs with | some r => some (y :: r) | none => none
end
mutual
theorem rep_dat {g : Gh} {w : World} : ∀ {x z : AV} {y : Value}, datO x = some z → rep g w x y → rep g w z y
  | .agg cs, z, y, h, hr => by
    simp only [datO] at h
    split at h
    · rename_i r hr'
      cases h
      simp only [rep] at hr ⊢
      obtain ⟨a, e, hr⟩ := hr
      exact ⟨a, e, reps_dat hr' hr⟩
    · cases h
  | .tup cs, z, y, h, hr => by
    simp only [datO] at h
    split at h
    · rename_i r hr'
      cases h
      simp only [rep] at hr ⊢
      obtain ⟨a, e, hr⟩ := hr
      exact ⟨a, e, reps_dat hr' hr⟩
    · cases h
  | .own n T e rows, z, y, h, hr => by
    simp only [datO] at h
    cases h
    simp only [rep] at hr ⊢
    exact drep_of_own hr
  | .top, z, y, h, hr => by simp only [datO] at h; cases h; exact hr
  | .v x, z, y, h, hr => by simp only [datO] at h; cases h; exact hr
  | .sl e rows, z, y, h, hr => by simp only [datO] at h; cases h; exact hr
  | .ptr n o, z, y, h, hr => by simp only [datO] at h; cases h; exact hr
  | .eptr cs, z, y, h, hr => by simp only [datO] at h; cases h; exact hr
  | .fn f a b, z, y, h, hr => by simp only [datO] at h; cases h; exact hr
  | .arr n T e l, z, y, h, hr => by simp only [datO] at h; cases h; exact hr
theorem reps_dat {g : Gh} {w : World} : ∀ {xs zs : List AV} {ys : List Value}, datOL xs = some zs → reps g w xs ys → reps g w zs ys
  | [], zs, ys, h, hr => by simp only [datOL] at h; cases h; exact hr
  | x :: xs, zs, ys, h, hr => by
    simp only [datOL] at h
    split at h
    · cases h
    · rename_i y' hy'
      split at h
      · rename_i r hr'
        cases h
        simp only [reps] at hr ⊢
        obtain ⟨y, zs', e, k1, k2⟩ := hr
        exact ⟨y, zs', e, rep_dat hy' k1, reps_dat hr' k2⟩
      · cases h
end
theorem callOk_dat {P : Program} {f : Nat} {args : List AV} {X Y : AV} (h : CallOk P f args (fun r => r = X)) (hd : datO X = some Y) : CallOk P f args (fun r => r = Y) := by
  intro L I x vals hI hx ha
  refine (h L I x vals hI hx ha).mono fun y x' he => ?_
  obtain ⟨r, g', rfl, h2, h3⟩ := he
  exact ⟨_, g', rfl, rep_dat hd h2, h3⟩
theorem callOk_nilSl {P : Program} {f : Nat} {args : List AV} {e : Nat} (h : CallOk P f args (fun r => r = .v (.slice none 0 0))) : CallOk P f args (fun r => r = .sl e []) := by
  intro L I x vals hI hx ha
  refine (h L I x vals hI hx ha).mono fun y x' he => ?_
  obtain ⟨r, g', rfl, h2, h3⟩ := he
  refine ⟨_, g', rfl, ?_, h3⟩
  simp only [rep] at h2
  subst h2
  simp only [rep, drep]
  exact ⟨none, 0, rfl, .inl trivial, Nat.zero_le _⟩
end Go.Eng

namespace Go.Eng
open Go Go.Conc

/- A value that reads so whatever the ghosts and the world. -/
mutual
def pl : AV → Bool
  | .v _ => true
  | .top => true
  | .agg cs => plL cs
  | .tup cs => plL cs
  | .sl _ [] => true
  | _ => false
def plL : List AV → Bool
  | [] => true
  | x :: xs => pl x && plL xs
end
mutual
theorem rep_pl {g g' : Gh} {w w' : World} : ∀ {x : AV} {y : Value}, pl x = true → rep g w x y → rep g' w' x y
  | .top, _, _, _ => by simp [rep]
  | .v x, y, _, h => by simpa [rep] using h
  | .agg cs, y, hp, h => by
    simp only [rep, pl] at h hp ⊢
    obtain ⟨a, e, h⟩ := h
    exact ⟨a, e, reps_pl hp h⟩
  | .tup cs, y, hp, h => by
    simp only [rep, pl] at h hp ⊢
    obtain ⟨a, e, h⟩ := h
    exact ⟨a, e, reps_pl hp h⟩
  | .sl e [], y, _, h => by
    simp only [rep, drep] at h ⊢
    obtain ⟨A, c, h1, _, h3⟩ := h
    exact ⟨A, c, h1, .inl trivial, h3⟩
  | .sl e (r :: rs), y, hp, _ => by simp [pl] at hp
  | .own .., _, hp, _ => by simp [pl] at hp
  | .ptr .., _, hp, _ => by simp [pl] at hp
  | .eptr .., _, hp, _ => by simp [pl] at hp
  | .fn .., _, hp, _ => by simp [pl] at hp
  | .arr .., _, hp, _ => by simp [pl] at hp
theorem reps_pl {g g' : Gh} {w w' : World} : ∀ {xs : List AV} {ys : List Value}, plL xs = true → reps g w xs ys → reps g' w' xs ys
  | [], ys, _, h => by simpa [reps] using h
  | x :: xs, ys, hp, h => by
    simp only [reps, plL, Bool.and_eq_true] at h hp ⊢
    obtain ⟨y, zs, e, h1, h2⟩ := h
    exact ⟨y, zs, e, rep_pl hp.1 h1, reps_pl hp.2 h2⟩
end

inductive LeS (bl : List (Nat × List AV)) : List AV → List AV → Prop where
  | nil : LeS bl [] []
  | v {x : Value} {xs ys : List AV} (hs : LeS bl xs ys) : LeS bl (.v x :: xs) (.v x :: ys)
  | sl {e : Nat} {rows : List (List AV)} {xs ys : List AV} (hs : LeS bl xs ys) : LeS bl (.sl e rows :: xs) (.sl e rows :: ys)
  | own {n T e : Nat} {rows : List (List AV)} {xs ys : List AV} (hs : LeS bl xs ys) : LeS bl (.own n T e rows :: xs) (.sl e rows :: ys)
  | nilS {e : Nat} {xs ys : List AV} (hs : LeS bl xs ys) : LeS bl (.v (.slice none 0 0) :: xs) (.sl e [] :: ys)
  | arr {n T e l : Nat} {rows more : List (List AV)} {xs ys : List AV} (hb : lookB bl n = some (rows ++ more).flatten) (hl : l = rows.length) (hlen : ∀ r ∈ rows, r.length = e) (hp : ∀ x ∈ rows.flatten, plain x = true) (hs : LeS bl xs ys) : LeS bl (.arr n T e l :: xs) (.sl e rows :: ys)
  | agg {cs ds xs ys : List AV} (h : LeS bl cs ds) (hs : LeS bl xs ys) : LeS bl (.agg cs :: xs) (.agg ds :: ys)
theorem dreps_leS {E : En} {g : Gh} {bl bl' : List (Nat × List AV)} {ow : List Nat} {w : World} (hm : Mem E g bl' ow w) (hbl : ∀ p ∈ bl, p ∈ bl') {xs ys : List AV} (h : LeS bl xs ys) : ∀ {zs : List Value}, reps g w xs zs → dreps (seen g w) w ys zs := by
  induction h with
  | nil => intro zs h; simp only [reps] at h; simpa only [dreps] using h
  | v _ ih =>
    intro zs h
    simp only [reps, rep] at h
    obtain ⟨y, zs', e, h1, h2⟩ := h
    simp only [dreps, drep]
    exact ⟨y, zs', e, h1, ih h2⟩
  | sl _ ih =>
    intro zs h
    simp only [reps, rep] at h
    obtain ⟨y, zs', e, h1, h2⟩ := h
    simp only [dreps]
    exact ⟨y, zs', e, drep_mono (fun b o hb => .inl hb) (fun _ _ _ => rfl) h1, ih h2⟩
  | own _ ih =>
    intro zs h
    simp only [reps, rep] at h
    obtain ⟨y, zs', e, h1, h2⟩ := h
    simp only [dreps]
    exact ⟨y, zs', e, drep_mono (fun b o hb => .inl hb) (fun _ _ _ => rfl) (drep_of_own h1), ih h2⟩
  | nilS _ ih =>
    intro zs h
    simp only [reps, rep] at h
    obtain ⟨y, zs', e, h1, h2⟩ := h
    subst h1
    simp only [dreps, drep]
    exact ⟨_, zs', e, ⟨none, 0, rfl, .inl trivial, Nat.zero_le _⟩, ih h2⟩
  | @arr n T e l rows more xs ys hb hl hlen hp _ ih =>
    intro zs h
    subst hl
    simp only [reps, rep] at h
    obtain ⟨y, zs', ez, ⟨b, c, h3, _, rfl, h4, _⟩, h2⟩ := h
    simp only [dreps, drep]
    refine ⟨_, zs', ez, ⟨_, c, rfl, .inr ⟨b, 0, rfl, ?_⟩, h4⟩, ih h2⟩
    obtain ⟨b', arr, k1, k2, k3, k4⟩ := hm.blk _ _ (hbl _ (lookB_mem hb))
    have : b' = b := by rw [h3] at k1; exact (Option.some.inj k1).symm
    subst this
    rw [List.flatten_append] at k3
    refine drows_iff.2 ⟨hlen, dcells_of_list (dreps_take (I := seen g w) (w' := w) hp k3) fun j z hj => ?_⟩
    have hj' : arr.toList[j]? = some z := by
      rw [List.getElem?_take] at hj
      split at hj
      · exact hj
      · cases hj
    have hc : w.cell? ⟨b', 0 + j, none⟩ = some z := by rw [cell_of_heap k2, Nat.zero_add]; simpa using hj'
    exact ⟨hc, .inr ⟨⟨_, h3⟩, by rw [hc]; rfl⟩⟩
  | agg _ _ ih1 ih2 =>
    intro zs h
    simp only [reps, rep] at h
    obtain ⟨y, zs', e, ⟨a, ea, h1⟩, h2⟩ := h
    simp only [dreps, drep]
    exact ⟨y, zs', e, ⟨a, ea, ih1 h1⟩, ih2 h2⟩
theorem seen_cell {E : En} {g : Gh} {bl : List (Nat × List AV)} {ow : List Nat} {x : CW} (hm : MemV E g bl ow x) : SeesI (seen g x.w) x := fun b o hb => by
  rcases hb with hb | ⟨⟨n, hn⟩, hb⟩
  · exact ⟨hm.mem.cell b o hb, hm.vis.I b o hb⟩
  · exact ⟨hb, (hm.vis.m n b hn).1⟩
theorem ret_plain {E : En} {g g' : Gh} {bl : List (Nat × List AV)} {ow : List Nat} {x x' : CW} {I : Nat → Nat → Prop} (hm : MemV E g bl ow x) (h4 : Ret I x g' x') : Ret g.I x (g0 g.I) x' := ⟨h4.below, fun _ _ h => h, fun _ _ h => .inl h, fun b o hb => by
  rw [World.cell?_of_block (a := ⟨b, o, none⟩) (h4.below.block b (cell_lt (hm.mem.cell b o hb)) (fun h => h (hm.vis.I b o hb)))]; exact hm.mem.cell b o hb, fun n b h => h.elim, fun n n' b h => h.elim, h4.grows, fun b o hb => h4.grows.up b (hm.vis.I b o hb), fun n b h => h.elim⟩
section
variable {E : En} {bl : List (Nat × List AV)} {tm : List (Nat × AV)} {d : Option Tmp} {ty : TypeId} {pos : String} {af : Array Edge} {gd : Option (Nat × Bool)}
theorem QV_callS {x : Operand} {xs : Array Operand} {ts : Array TypeId} {f : Nat} {ys : List AV} {r : AV} [hf : FnOk E.P f] (h : CallOk E.P f ys (fun r' => r' = r)) (hx : ev tm x = .v (.func (.func f) #[] #[])) (ha : LeS bl (xs.toList.map (ev tm)) ys) (hp : pl r = true) :
    QV E bl tm ⟨d, .call ⟨.value x, xs, ts⟩, ty, pos, af, gd⟩ r [] [] := by
  intro L g ρ bl' ow' w hm0 hbl _ _ hop w₁ rw₁
  have hg := hm0.goes rw₁
  have hm := hm0.rely rw₁
  have h1 := rep_goes hg (hop x (by simp [Op.operands, Call.operands]))
  have h2 : reps g w₁ (xs.toList.map (ev tm)) (xs.toList.map ρ) := reps_map _ fun y hy => rep_goes hg (hop y (by simp [Op.operands, Call.operands] at hy ⊢; exact .inr hy))
  rw [hx] at h1
  simp only [rep] at h1
  obtain ⟨fn, f1, f2, f3⟩ := hf.ok
  have f2' : fn.name ≠ "runtime.NumGoroutine" := by simpa using f2
  have f3' : fn.body ≠ none := fun e => by rw [e] at f3; simp at f3
  have hrun : (execOp ρ ⟨d, .call ⟨.value x, xs, ts⟩, ty, pos, af, gd⟩).run E.P w₁ = .ok (.enter f (xs.map ρ)) w₁ := by
    simp [execOp, resolve, Deferred.ofValue, h1, invoke, callFunc, f1, f2', f3']
  have hevs : (execOp ρ ⟨d, .call ⟨.value x, xs, ts⟩, ty, pos, af, gd⟩).events E.P w₁ #[] = #[] := by
    simp [execOp, resolve, Deferred.ofValue, h1, invoke, callFunc, f1, f2', f3']
  rw [hrun]
  refine ⟨rfl, hevs, (h L (seen g w₁) ⟨w.V, w₁⟩ (xs.map ρ) (seen_cell hm) ⟨hm.vis.sub, hm.vis.lt⟩ (by rw [Array.toList_map]; exact dreps_leS hm.mem hbl ha h2)).mono fun y w' he => ?_⟩
  obtain ⟨r', g', rfl, h3, h4⟩ := he
  obtain ⟨gc, h5, h6, _, _⟩ := hm.called (ret_plain hm h4) 0 [] (fun n hn => by simp at hn)
  exact ⟨gc, hg.trans h5, by simpa using h6, rep_pl hp h3⟩
end

inductive MutA (n T e N len : Nat) (rows : List (List AV)) : AV → AV → Prop where
  | own : MutA n T e N len rows (.own n T e rows) (.arr N T e len)
  | agg : MutA n T e N len rows (.agg [.own n T e rows]) (.agg [.arr N T e len])
  | tup {b : Value} : MutA n T e N len rows (.tup [.agg [.own n T e rows], .v b]) (.tup [.agg [.arr N T e len], .v b])
  | tupS {b : Value} : MutA n T e N len rows (.tup [.own n T e rows, .v b]) (.tup [.arr N T e len, .v b])
theorem mut_has {g : Gh} {w : World} {n T e N len : Nat} {rows : List (List AV)} {x z : AV} {y : Value} (h : MutA n T e N len rows x z) (hr : rep g w x y) : ∃ u, ownRep g w n T e rows u := by
  cases h <;> simp only [rep, reps] at hr
  · exact ⟨_, hr⟩
  · obtain ⟨_, _, u, _, _, hr, _⟩ := hr; exact ⟨u, hr⟩
  · obtain ⟨_, _, _, _, _, ⟨_, _, u, _, _, hr, _⟩, _⟩ := hr; exact ⟨u, hr⟩
  · obtain ⟨_, _, u, _, _, hr, _⟩ := hr; exact ⟨u, hr⟩
theorem mut_rep {g gc : Gh} {w w' : World} {n T e N len : Nat} {rows : List (List AV)} (hA : ∀ u, ownRep g w n T e rows u → rep gc w' (.arr N T e len) u) {x z : AV} {y : Value} (h : MutA n T e N len rows x z) (hr : rep g w x y) : rep gc w' z y := by
  cases h
  · simp only [rep] at hr; exact hA _ hr
  · simp only [rep, reps] at hr ⊢
    obtain ⟨a, ea, u, zs, e1, hr, e2⟩ := hr
    have := hA _ hr
    simp only [rep] at this
    exact ⟨a, ea, u, zs, e1, this, e2⟩
  · simp only [rep, reps] at hr ⊢
    obtain ⟨a, ea, u, zs, e1, ⟨a', ea', u', zs', e1', hr, e2⟩, e3⟩ := hr
    have := hA _ hr
    simp only [rep] at this
    exact ⟨a, ea, u, zs, e1, ⟨a', ea', u', zs', e1', this, e2⟩, e3⟩
  · simp only [rep, reps] at hr ⊢
    obtain ⟨a, ea, u, zs, e1, hr, e2⟩ := hr
    have := hA _ hr
    simp only [rep] at this
    exact ⟨a, ea, u, zs, e1, this, e2⟩

section
variable {E : En} {ops : Array Oper} {rest : List Oper} {Q : Exit → St → Prop} {tm : List (Nat × AV)} {bl bl' : List (Nat × List AV)} {ow : List Nat} {d : Nat} {ty : TypeId} {pos : String} {af : Array Edge}
theorem wlmu {x : Operand} {xs : Array Operand} {ts : Array TypeId} {f n T e N len : Nat} {ys : List AV} {rows : List (List AV)} {r z : AV} [hf : FnOk E.P f] (h : CallOk E.P f ys (fun r' => r' = r)) (hN : Nat.ble 1000000 N = true) (h0 : 0 < rows.length) (hpl : ∀ x ∈ rows.flatten, plain x = true) (hx : ev tm x = .v (.func (.func f) #[] #[])) (ha : LeS bl (xs.toList.map (ev tm)) ys)
    (hz : MutA n T e N len rows r z) (hlen : rows.length = len) (hd : Nat.blt d E.nt = true) (hfr : bl.all (fun q => !Nat.beq q.1 N) = true) (hk : ∀ more, MoreOk e more → WL E ops rest Q ⟨(d, z) :: tm, (N, (rows ++ more).flatten) :: bl, ow⟩) :
    WL E ops (⟨some d, .call ⟨.value x, xs, ts⟩, ty, pos, af, none⟩ :: rest) Q ⟨tm, bl, ow⟩ := by
  subst hlen
  refine WL_call hx fun L g a x hi h2 => ?_
  have hmv := hi.mem
  have hm := hi.mem.mem
  have hv := hi.mem.vis
  refine (h L (seen g x.w) x (xs.map a.eval) (seen_cell hmv) hi.rigged (dreps_leS hm (fun _ h => h) ha h2)).mono fun y x' he => ?_
  obtain ⟨V, w⟩ := x
  obtain ⟨V', w'⟩ := x'
  obtain ⟨r', g', rfl, h3, h4⟩ := he
  have hG := h4.grows
  have hm : Mem E g bl ow w := hi.mem.mem
  have hv : Vis E V g w := hi.mem.vis
  obtain ⟨u, hu⟩ := mut_has hz h3
  obtain ⟨b, c, arr, b1, b2, b3, b4, b5, b6, b7⟩ := own_here hu h0
  have hl : ∀ r ∈ rows, r.length = e := by obtain ⟨_, _, _, _, _, hl, _⟩ := hu; exact hl
  have hb : w.heap.size ≤ b ∧ b < w'.heap.size := h4.own n b hu.1 b1
  have heap : ∀ k, V.vis k → w'.heap[k]? = w.heap[k]? := fun k hk => h4.below.block k (hv.lt k hk) (fun h => h hk)
  have hsz : w.heap.size ≤ w'.heap.size := h4.below.size
  have hIlt : ∀ b o, g.I b o → b < w.heap.size := fun b o hb => cell_lt (hm.cell b o hb)
  have keeps : Keeps g.I w w' := fun b o hb => World.cell?_of_block (a := ⟨b, o, none⟩) (heap b (hv.I b o hb))
  have hfr' : ∀ q ∈ bl, q.1 ≠ N := fun q hq e => by
    have := List.all_eq_true.1 hfr q hq
    simp [e] at this
  have hnone : g.m N = none := by
    cases hmN : g.m N with
    | none => rfl
    | some b' => obtain ⟨cs, hc⟩ := hm.key N b' hmN; exact absurd rfl (hfr' _ hc)
  let gc : Gh := { g with m := fun k => if k = N then some b else g.m k, mt := fun k => if k = N then T else g.mt k }
  have hmm : ∀ k b', gc.m k = some b' → (k = N ∧ b' = b) ∨ (k ≠ N ∧ g.m k = some b') := fun k b' hk => by
    by_cases e : k = N
    · simp only [gc, e, if_true, Option.some.injEq] at hk; exact .inl ⟨e, hk.symm⟩
    · simp only [gc, e, if_false] at hk; exact .inr ⟨e, hk⟩
  have goes : Goes g w gc w' := by
    refine ⟨fun _ _ h => h, keeps, fun k b' hk => ?_, fun k b' hk => ?_, fun k T' e' rows' y' hy' => ownRep_goes (g := g) (g' := gc) (fun _ _ h => h) keeps (fun k hk => ⟨hk, rfl⟩) (fun k b' k1 k2 => heap b' (hv.sub b' (hv.o k b' k1 k2))) (fun _ _ _ _ _ h => h) hy', fun k b' _ _ hk hc => hc.same (heap b' (hv.m k b' hk).1)⟩
    · have : k ≠ N := fun e => by rw [e, hnone] at hk; cases hk
      simp only [gc, this, if_false]; exact hk
    · have : k ≠ N := fun e => by rw [e, hnone] at hk; cases hk
      simp only [gc, this, if_false]
  let more : List (List AV) := List.replicate (c - rows.length) (List.replicate e .top)
  have hmore : MoreOk e more := fun r hr => by
    rw [List.eq_of_mem_replicate hr]
    exact ⟨by simp, fun x hx => by rw [List.eq_of_mem_replicate hx]; rfl⟩
  have hml : more.flatten.length = (c - rows.length) * e := by
    rw [flatten_length (e := e) (fun r hr => (hmore r hr).1)]; simp [more]
  have hce : c * e = rows.length * e + (c - rows.length) * e := by rw [← Nat.add_mul]; congr 1; omega
  have hreps : reps gc w' (rows ++ more).flatten arr.toList := by
    rw [List.flatten_append, ← List.take_append_drop (rows.length * e) arr.toList]
    refine reps_append (reps_plain (g := g') (w := w') hpl (reps_of_dreps b7)) (reps_tops _ _ ?_ ?_)
    · rw [List.all_eq_true]
      intro x hx
      obtain ⟨r, hr, hx⟩ := List.mem_flatten.1 hx
      rw [List.eq_of_mem_replicate hr] at hx
      rw [List.eq_of_mem_replicate hx]; rfl
    · have ea : arr.toList.length = arr.size := by simp
      rw [hml, List.length_drop, ea, b6]; omega
  have hmem : Mem E gc ((N, (rows ++ more).flatten) :: bl) ow w' :=
    { below := ⟨h4.below.os.trans hm.below.os, h4.below.tape.trans hm.below.tape, h4.below.output.trans hm.below.output, Nat.le_trans hm.below.size hsz, fun k hk hM => (heap k (hv.up k (hv.nM k hM))).trans (hm.below.block k hk hM)⟩
      base := Nat.le_trans hm.base hsz
      cell := fun b' o hbo => by rw [keeps b' o hbo]; exact hm.cell b' o hbo
      mfr := fun k b' hk => by
        rcases hmm k b' hk with ⟨rfl, rfl⟩ | ⟨_, k2⟩
        · exact ⟨.inr (.inl (Nat.le_trans hm.base hb.1)), hb.2⟩
        · exact ⟨(hm.mfr k b' k2).1, Nat.lt_of_lt_of_le (hm.mfr k b' k2).2 hsz⟩
      ofr := fun k b' k1 k2 => ⟨(hm.ofr k b' k1 k2).1, Nat.lt_of_lt_of_le (hm.ofr k b' k1 k2).2 hsz⟩
      minj := fun k k' b' k1 k2 => by
        rcases hmm k b' k1 with ⟨rfl, rfl⟩ | ⟨_, k3⟩ <;> rcases hmm k' _ k2 with ⟨rfl, k4⟩ | ⟨_, k4⟩
        · rfl
        · have := (hm.mfr k' _ k4).2; have := hb.1; omega
        · subst k4; have := (hm.mfr k _ k3).2; have := hb.1; omega
        · exact hm.minj k k' b' k3 k4
      oinj := hm.oinj
      disj := fun k k' b' k1 k2 k3 => by
        rcases hmm k b' k1 with ⟨rfl, rfl⟩ | ⟨_, k4⟩
        · have := (hm.ofr k' _ k2 k3).2; have := hb.1; omega
        · exact hm.disj k k' b' k4 k2 k3
      blk := fun k ds hk => by
        rcases List.mem_cons.1 hk with hk | hk
        · cases hk
          exact ⟨b, arr, by simp only [gc, if_true], by simp only [gc, if_true]; exact b5, hreps, fun o ho => by have := hIlt _ o ho; have := hb.1; omega⟩
        · obtain ⟨b', arr', q1, q2, q3, q4⟩ := hm.blk k ds hk
          exact ⟨b', arr', goes.m k b' q1, by rw [goes.mt k b' q1]; exact (heap b' (hv.m k b' q1).1).trans q2, reps_goes goes q3, q4⟩
      key := fun k b' hk => by
        rcases hmm k b' hk with ⟨rfl, rfl⟩ | ⟨_, k2⟩
        · exact ⟨_, List.mem_cons_self ..⟩
        · obtain ⟨cs, hc⟩ := hm.key k b' k2; exact ⟨cs, List.mem_cons_of_mem _ hc⟩
      own := hm.own
      inew := hm.inew
      iold := hm.iold
      pin := fun k b' T' hp => ⟨goes.m k b' (hm.pin k b' T' hp).1, (goes.mt k b' (hm.pin k b' T' hp).1).trans (hm.pin k b' T' hp).2⟩ }
  have hz' : rep gc w' z y := mut_rep (gc := gc) (w' := w') (fun u' hu' => by
    obtain ⟨b', c', arr', k1, k2, k3, k4, k5, k6, _⟩ := own_here hu' h0
    rw [b1] at k1
    cases k1
    simp only [rep]
    exact ⟨b, c', by simp only [gc, if_true], by simp only [gc, if_true], k2, k3, fun h => by have := Nat.le_of_ble_eq_true hN; omega, fun _ => ⟨k4, _, _, k5, k6⟩⟩) hz h3
  have hvm : ∀ k b', gc.m k = some b' → V'.vis b' ∧ (k ∉ E.ron → V'.mine b') := fun k b' hk => by
    rcases hmm k b' hk with ⟨rfl, rfl⟩ | ⟨_, k2⟩
    · exact ⟨hG.rig.sub _ (h4.visO n _ hu.1 b1), fun _ => h4.visO n _ hu.1 b1⟩
    · exact ⟨hG.up b' (hv.m k b' k2).1, fun hr => hG.upm b' ((hv.m k b' k2).2 hr)⟩
  have hmem' : MemV E gc ((N, (rows ++ more).flatten) :: bl) ow ⟨V', w'⟩ := ⟨hmem, { I := fun b o hb => hG.up b (hv.I b o hb), m := hvm, o := fun j b h1 h2 => hG.upm b (hv.o j b h1 h2), sub := hG.rig.sub, lt := hG.rig.lt, up := fun b hb => hG.up b (hv.up b hb), upm := fun b hb => hG.upm b (hv.upm b hb), dn := fun b hb => (hG.dn b hb).elim (hv.dn b) (fun h1 => .inr (Nat.le_trans hm.base h1)), dnm := fun b hb => (hG.dnm b hb).elim (hv.dnm b) (fun h1 => .inr (Nat.le_trans hm.base h1)), nM := hv.nM, ext := hG.ext.trans hv.ext }⟩
  have hi' : Inv E g ⟨tm, bl, ow⟩ a ⟨V, w⟩ := hi
  have := hi'.app (d := some d) (v := z) (y := y) (nb := [(N, (rows ++ more).flatten)]) (no := []) (fun k hk => by cases hk; exact Nat.le_of_ble_eq_true hd) goes (by simpa using hmem') hz'
  exact hk more hmore L gc _ _ this
end
end Go.Eng

namespace Go.Eng
open Go
section
variable {E : En} {bl : List (Nat × List AV)} {tm : List (Nat × AV)} {d : Option Tmp} {ty : TypeId} {pos : String} {af : Array Edge} {gd : Option (Nat × Bool)} {op : Op} {v : AV}
theorem qv0 (h : QV E bl tm ⟨d, op, ty, pos, af, gd⟩ v [] [] := by first | exact q_move rfl | exact q_assign rfl | exact q_load rfl rfl rfl rfl | exact QV_fieldAddr rfl | exact QV_ar rfl rfl rfl (by omega) | exact QV_bin rfl rfl rfl | exact q_loadE rfl rfl | exact q_fieldAddrE rfl rfl | exact QV_not rfl) : QV E bl tm ⟨d, op, ty, pos, af, gd⟩ v [] [] := h
theorem qv1 (h : QV E bl tm ⟨d, op, ty, pos, af, gd⟩ v [] [] := by first | exact q_pick rfl rfl | exact QV_neg' rfl (by omega) | exact QV_neg rfl | exact q_lenM rfl rfl | exact QV_len rfl rfl | exact QV_lenNil rfl | exact QV_extract rfl rfl | exact q_field rfl rfl rfl rfl | exact QV_min rfl rfl | exact QV_max rfl rfl | exact q_build rfl | exact QV_nilCheck rfl trivial | exact QV_nilCheckF rfl | exact q_makeFunc rfl rfl) : QV E bl tm ⟨d, op, ty, pos, af, gd⟩ v [] [] := h
theorem q_callA {x : Operand} {xs : Array Operand} {ts : Array TypeId} {f : Nat} {ys : List AV} {r v : AV} [hf : FnOk E.P f] (h : CallOk E.P f ys (fun r' => r' = r)) (hx : ev tm x = .v (.func (.func f) #[] #[]) := by exact rfl) (ha : LeDs (xs.toList.map (ev tm)) ys := by (repeat' (first | exact LeDs.nil | refine LeDs.cons (by first | exact LeD.v | exact LeD.sl | exact LeD.own | exact LeD.nil | exact LeD.top) ?_ | refine LeDs.agg ?_ ?_)); first | done | fail "open") (ho : ownsIn [] r = true := by exact rfl) (hv : renO 0 r = some v := by exact rfl) :
    QV E bl tm ⟨d, .call ⟨.value x, xs, ts⟩, ty, pos, af, gd⟩ v [] [] := q_call h hx ha ho hv
theorem q_call1A {x : Operand} {xs : Array Operand} {ts : Array TypeId} {f : Nat} {ys : List AV} {r v : AV} (k n : Nat) [hf : FnOk E.P f] (h : CallOk E.P f ys (fun r' => r' = r)) (hx : ev tm x = .v (.func (.func f) #[] #[]) := by exact rfl) (ha : LeDs (xs.toList.map (ev tm)) ys := by (repeat' (first | exact LeDs.nil | refine LeDs.cons (by first | exact LeD.v | exact LeD.sl | exact LeD.own | exact LeD.nil | exact LeD.top) ?_ | refine LeDs.agg ?_ ?_)); first | done | fail "open") (ho : ownsIn [n] r = true := by exact rfl) (hv : renO k r = some v := by exact rfl) :
    QV E bl tm ⟨d, .call ⟨.value x, xs, ts⟩, ty, pos, af, gd⟩ v [] [k + n] := q_call1 k n h hx ha ho hv
theorem q_callSA {x : Operand} {xs : Array Operand} {ts : Array TypeId} {f : Nat} {ys : List AV} {r : AV} [hf : FnOk E.P f] (h : CallOk E.P f ys (fun r' => r' = r)) (hx : ev tm x = .v (.func (.func f) #[] #[]) := by exact rfl) (ha : LeS bl (xs.toList.map (ev tm)) ys := by (repeat' (first | exact LeS.nil | refine LeS.v ?_ | refine LeS.sl ?_ | refine LeS.own ?_ | refine LeS.arr rfl (by first | exact len_map | exact len_mks) (map_lens (fun _ => rfl)) (map_plainB (fun _ => rfl)) ?_ | refine LeS.nilS ?_ | refine LeS.agg ?_ ?_)); first | done | fail "open") (hp : pl r = true := by exact rfl) :
    QV E bl tm ⟨d, .call ⟨.value x, xs, ts⟩, ty, pos, af, gd⟩ r [] [] := QV_callS h hx ha hp
end
section
variable {ops : Array Oper} {tm : List (Nat × AV)} {gd : Option (Nat × Bool)}
theorem gy0 (h : GY ops tm gd := by first | exact trivial | exact ⟨_, rfl, rfl⟩) : GY ops tm gd := h
end
theorem wkA {E : En} {s s' : St} (h1 : Pick s.ow s.tm s'.tm := by repeat' (first | exact trivial | refine And.intro ?_ ?_ | exact Le.refl | exact Le.nilOwn rfl | exact Le.nilSl | exact Le.ownSl | exact Le.top)) (h2 : PickB s.ow s.bl s'.bl := by repeat' (first | exact trivial | refine And.intro ?_ ?_ | exact ⟨_, rfl, Les.refl _⟩ | exact ⟨_, rfl, by repeat' (first | exact Les.nil | exact Les.cons Le.refl (Les.refl _) | refine Les.cons (by first | exact Le.top | exact Le.refl | exact Le.ownSl | exact Le.nilSl) ?_)⟩)) (h3 : refsL (s'.bl.map (·.1)) s'.ow (s'.tm.map (·.2)) = true := by exact rfl) (h4 : RefsB (s'.bl.map (·.1)) s'.ow s'.bl := by repeat' (first | exact trivial | refine And.intro ?_ ?_ | exact rfl | exact refs_fill (fun _ => rfl) rfl | exact refs_map (fun _ => rfl))) (h5 : ∀ n b T, E.pin n b T → n ∈ s'.bl.map (·.1) := by exact (fun _ _ _ h => by first | exact h.elim | (obtain ⟨rfl, rfl, rfl⟩ := h; simp))) : Weak E s s' := weak_mk h1 h2 h3 h4 h5
theorem wkO {E : En} {s s' : St} (h1 : Pick s.ow s.tm s'.tm := by repeat' (first | exact trivial | refine And.intro ?_ ?_ | exact Le.refl | exact Le.nilOwn rfl | exact Le.nilSl | exact Le.ownSl | exact Le.top)) (h2 : PickB s.ow s.bl s'.bl := by repeat' (first | exact trivial | refine And.intro ?_ ?_ | exact ⟨_, rfl, Les.refl _⟩ | exact ⟨_, rfl, by repeat' (first | exact Les.nil | exact Les.cons Le.refl (Les.refl _) | refine Les.cons (by first | exact Le.top | exact Le.refl | exact Le.ownSl | exact Le.nilOwn rfl | exact Le.nilSl) ?_)⟩)) (h3 : refsL (s'.bl.map (·.1)) s'.ow (s'.tm.map (·.2)) = true := by exact rfl) (h4 : RefsB (s'.bl.map (·.1)) s'.ow s'.bl := by repeat' (first | exact trivial | refine And.intro ?_ ?_ | exact rfl | exact refs_fill (fun _ => rfl) rfl | exact refs_map (fun _ => rfl))) (h5 : ∀ n b T, E.pin n b T → n ∈ s'.bl.map (·.1) := by exact (fun _ _ _ h => by first | exact h.elim | (obtain ⟨rfl, rfl, rfl⟩ := h; simp))) : Weak E s s' := weak_mk h1 h2 h3 h4 h5
theorem wkC {E : En} {s s' : St} (h1 : Pick s.ow s.tm s'.tm := by repeat' (first | exact trivial | refine And.intro ?_ ?_ | exact Le.refl | exact Le.nilOwn rfl | exact Le.nilSl | exact Le.ownSl | exact Le.top)) (h2 : PickB s.ow s.bl s'.bl := by repeat' (first | exact trivial | refine And.intro ?_ ?_ | exact ⟨_, rfl, Les.refl _⟩ | exact ⟨_, rfl, by repeat' (first | exact Les.nil | exact Les.cons Le.refl (Les.refl _) | refine Les.cons (by first | exact Le.top | exact Le.refl | exact Le.ownSl | exact Le.nilSl) ?_)⟩)) (h3 : refsL (s'.bl.map (·.1)) s'.ow (s'.tm.map (·.2)) = true := by exact rfl) (h4 : RefsB (s'.bl.map (·.1)) s'.ow s'.bl := by repeat' (first | exact trivial | refine And.intro ?_ ?_ | exact rfl | exact refs_fill (fun _ => rfl) rfl | exact refs_map (fun _ => rfl))) (h5 : ∀ n b T, E.pin n b T → n ∈ s'.bl.map (·.1) := by exact (fun _ _ _ h => by first | exact absurd h.1 List.not_mem_nil | (have h := h.1; simp at h ⊢; omega) | exact h.elim | (obtain ⟨rfl, rfl, rfl⟩ := h; simp))) : Weak E s s' := weak_mk h1 h2 h3 h4 h5
section
variable {E : En} {bl : List (Nat × List AV)} {tm : List (Nat × AV)} {d : Option Tmp} {ty : TypeId} {pos : String} {af : Array Edge} {gd : Option (Nat × Bool)} {op : Op} {v : AV} {nb : List (Nat × List AV)} {no : List Nat}
theorem qbx (h : QV E bl tm ⟨d, op, ty, pos, af, gd⟩ v nb no := by first | exact q_box rfl rfl rfl | exact q_alloc) : QV E bl tm ⟨d, op, ty, pos, af, gd⟩ v nb no := h
end
def okN : Code → Bool
  | .seq _ _ => true
  | .skip => true
  | .ret => true
  | .block _ _ => true
  | .exit _ => true
  | .region _ _ false => true
  | _ => false
def WN (E : En) (Q : Exit → St → Prop) (s : St) : Code → Prop
  | .seq x y => W E x (thenW E y Q) s
  | .skip => Q .normal s
  | .ret => Q .ret s
  | .block id c => W E c (inBlk id Q) s
  | .exit id => Q (.exit id) s
  | .region _ ops false => WL E ops ops.toList Q s
  | _ => False
theorem wN {E : En} {c : Code} {Q : Exit → St → Prop} {s : St} (ho : okN c = true) (h : WN E Q s c) : W E c Q s := by
  cases c with
  | seq x y => exact W_seq h
  | skip => exact W_skip h
  | ret => exact W_ret h
  | block id c => exact W_block h
  | exit id => exact W_exit h
  | region id ops b =>
    cases b with
    | false => exact fun L g a w hi => wpV_region_list (h L g a w hi)
    | true => cases ho
  | _ => cases ho
section
variable {E : En} {ops : Array Oper} {rest : List Oper} {Q : Exit → St → Prop} {tm : List (Nat × AV)} {bl : List (Nat × List AV)} {ow : List Nat} {d : Nat} {op : Op} {ty : TypeId} {pos : String} {af : Array Edge} {gd : Option (Nat × Bool)} {v : AV} {cs : List AV}
theorem zq0 (h : QV E bl tm ⟨some d, op, ty, pos, af, gd⟩ v [] []) (hk : WL E ops rest Q ⟨(d, v) :: tm, bl, ow⟩) (hg : GY ops tm gd := by exact gy0) (hd : Nat.blt d E.nt = true := by exact rfl) : WL E ops (⟨some d, op, ty, pos, af, gd⟩ :: rest) Q ⟨tm, bl, ow⟩ := wl0 h hg hd hk
theorem zq1 (hk : WL E ops rest Q ⟨(d, v) :: tm, (d, cs) :: bl, ow⟩) (h : QV E bl tm ⟨some d, op, ty, pos, af, gd⟩ v [(d, cs)] [] := by first | exact q_box rfl rfl rfl | exact q_alloc) (hg : GY ops tm gd := by exact gy0) (hd : Nat.blt d E.nt = true := by exact rfl) (hf : freshB [(d, cs)] [] ⟨tm, bl, ow⟩ = true := by exact rfl) : WL E ops (⟨some d, op, ty, pos, af, gd⟩ :: rest) Q ⟨tm, bl, ow⟩ := wlb h hg hd hf hk
theorem zq2 (hk : WL E ops rest Q ⟨(d, .v undef) :: tm, bl, ow⟩) (hg : GN ops tm gd := by exact ⟨_, rfl, rfl⟩) (hd : Nat.blt d E.nt = true := by exact rfl) : WL E ops (⟨some d, op, ty, pos, af, gd⟩ :: rest) Q ⟨tm, bl, ow⟩ := wln hg hd hk
theorem zq3 (hk : WL E ops rest Q ⟨(d, .v undef) :: tm, bl, ow⟩) (hg : GU ops tm gd := by exact ⟨_, rfl, rfl⟩) (hd : Nat.blt d E.nt = true := by exact rfl) : WL E ops (⟨some d, op, ty, pos, af, gd⟩ :: rest) Q ⟨tm, bl, ow⟩ := wlnu hg hd hk
theorem zq4 {x y : Operand} {t nn o sz : Nat} {ag : Bool} {ds r : List AV} {bl' : List (Nat × List AV)} [ht : TyOk E.P t ag sz] (hk : WL E ops rest Q ⟨tm, bl', ow⟩) (hx : ev tm x = .ptr nn o := by exact rfl) (hy : evO tm y = some v := by exact rfl) (hb : lookB bl nn = some cs := by exact rfl) (hro : nn ∉ E.ron := by exact List.not_mem_nil)
    (hc : isC v = true := by exact rfl) (ha : acellsO v = some ds := by exact rfl) (hall : ds.all isCell = true := by exact rfl) (hl : Nat.beq ds.length sz = true := by exact rfl) (hp : putO cs o ds = some r := by exact rfl) (hs : setBO bl nn r = some bl' := by exact rfl) : WL E ops (⟨none, .store t x y, ty, pos, af, none⟩ :: rest) Q ⟨tm, bl, ow⟩ := wst hx hy hb hro hc ha hall hl hp hs hk
theorem zq5 {s : St} {c : Operand} {x y : Code} (h : W E x Q s) (hc : ev s.tm c = .v (.bool true) := by exact rfl) : W E (.cond c x y) Q s := W_condT hc h
theorem zq6 {s : St} {c : Operand} {x y : Code} (h : W E y Q s) (hc : ev s.tm c = .v (.bool false) := by exact rfl) : W E (.cond c x y) Q s := W_condF hc h
theorem zq7 {bl0 : List (Nat × List AV)} {K : St → Prop} (hk : HW E ops bl0 rest ⟨(d, .v undef) :: tm, bl, ow⟩ K) (hg : GN ops tm gd := by exact ⟨_, rfl, rfl⟩) (hd : Nat.blt d E.nt = true := by exact rfl) : HW E ops bl0 (⟨some d, op, ty, pos, af, gd⟩ :: rest) ⟨tm, bl, ow⟩ K := hwn hg hd hk
theorem zq8 {bl0 : List (Nat × List AV)} {K : St → Prop} (hk : HW E ops bl0 rest ⟨(d, .v undef) :: tm, bl, ow⟩ K) (hg : GU ops tm gd := by exact ⟨_, rfl, rfl⟩) (hd : Nat.blt d E.nt = true := by exact rfl) : HW E ops bl0 (⟨some d, op, ty, pos, af, gd⟩ :: rest) ⟨tm, bl, ow⟩ K := hwnu hg hd hk
end
end Go.Eng

namespace Go.Eng
open Go Go.Conc

def CallOkA (P : Program) (f : Nat) (args : List AV) (R : AV → Prop) : Prop :=
  ∀ (L : Lg P) (I : Nat → Nat → Prop) (x : CW) (vals : Array Value), x.V.ext = .alone → SeesI I x → Rigged x → dreps I x.w args vals.toList →
    CallsV L f vals x fun y x' => ∃ r g', R r ∧ rep g' x'.w r y ∧ Ret I x g' x'
theorem callOkA_of {P : Program} {f : Nat} {args : List AV} {R : AV → Prop} (h : CallOk P f args R) : CallOkA P f args R := fun L I x vals _ => h L I x vals
theorem CallOkA_of_W {P : Program} {f nt : Nat} {fn : Func} {rs : Array ResultVar} {c : Code} {args : List AV} {R : AV → Prop} (hf : P.funcs[f]? = some fn) (hnt : fn.ntmps = nt) (hrs : fn.results = rs) (hb : fn.body = some c) (hn : args.length ≤ nt)
    (h : ∀ (B : Nat) (w0 : World) (M : Nat → Prop) (I0 : Nat → Nat → Prop) (V0 : Rig), V0.ext = .alone → W (enC P B w0 nt M I0 V0) c (retQ (enC P B w0 nt M I0 V0) rs.toList R) ⟨(args.zipIdx 0).map fun p => (p.2, p.1), [], []⟩) : CallOkA P f args R := by
  subst hnt; subst hrs
  intro L I x vals hal hI hx hargs
  let E : En := enC P x.w.heap.size x.w fn.ntmps (fun b => ¬ x.V.vis b) I x.V
  let g : Gh := ⟨I, fun _ => none, fun _ => none, fun _ => False, fun _ => 0⟩
  have hlen := dreps_length hargs
  have hargs' : reps g x.w args vals.toList := reps_of_dreps hargs
  have hi0 : Inv E g ⟨(args.zipIdx 0).map fun p => (p.2, p.1), [], []⟩ { tmps := vals ++ Array.replicate (fn.ntmps - vals.size) undef, defers := [] } x := by
    refine ⟨⟨⟨BelowM.refl _ _ _, Nat.le_refl _, fun b o h => (hI b o h).1, fun n b h => by simp [g] at h, fun n b h => by simp [g] at h, fun n n' b h => by simp [g] at h, fun n n' b h => by simp [g] at h, fun n n' b h => by simp [g] at h,
      fun n cs h => by simp at h, fun n b h => by simp [g] at h, fun n h => by simp [g] at h, fun b o h => .inl h, fun b o h => h, fun n b T h => h.elim⟩,
      ⟨fun b o h => (hI b o h).2, fun n b h => by simp [g] at h, fun n b h => by simp [g] at h, hx.sub, hx.lt, fun _ h => h, fun _ h => h, fun _ h => .inl h, fun _ h => .inl h, fun b h => Classical.not_not.1 h, rfl⟩⟩, fun t => ?_, rfl, ?_⟩
    · simp only [look_zip, Nat.zero_le, if_true, Nat.sub_zero]
      rcases Nat.lt_or_ge t args.length with h1 | h1
      · obtain ⟨y, hy, hr⟩ := reps_get hargs' (List.getElem?_eq_getElem h1)
        have : t < vals.size := by simpa [← hlen] using h1
        have hy' : vals[t] = y := by simpa [this] using hy
        simp only [List.getD_eq_getElem?_getD, List.getElem?_eq_getElem h1, Option.getD_some]
        simp only [Array.getD_eq_getD_getElem?, Array.getElem?_append_left this, Array.getElem?_eq_getElem this, Option.getD_some, hy']
        exact hr
      · simp only [List.getD_eq_getElem?_getD, List.getElem?_eq_none h1, Option.getD_none, rep]
    · have : vals.size = args.length := by simpa using hlen
      show (vals ++ Array.replicate (fn.ntmps - vals.size) undef).size = fn.ntmps
      simp; omega
  refine ⟨fn, c, hf, hb, wpV_mono (h x.w.heap.size x.w (fun b => ¬ x.V.vis b) I x.V hal L g _ x hi0) fun e a' x' hq => ?_⟩
  obtain ⟨g', s', hq, hi⟩ := hq
  have fin : ∀ s1, Weak E s' s1 → ∀ xs, resA P s1 fn.results.toList xs → R (oneA xs) → refs [] s1.ow (oneA xs) = true → a'.defers = [] ∧ ∀ w₁, Rely x'.V x'.w w₁ → ∃ v, (results fn a'.tmps).run P w₁ = .ok v w₁ ∧
      (∀ e ∈ (results fn a'.tmps).events P w₁ #[], EvG x'.V w₁.heap.size w₁.heap.size e) ∧ ∃ r g', R r ∧ rep g' w₁ r v ∧ Ret I x g' ⟨x'.V, w₁⟩ := by
    intro s1 hw xs h1 h2 h3
    obtain ⟨g', hi⟩ := hw _ _ _ hi
    refine ⟨hi.de, fun w₁ r => ?_⟩
    have hi := hi.rely r
    obtain ⟨y, k1, k2, k3⟩ := run_results hi h1
    let g2 : Gh := { g' with m := fun _ => none }
    refine ⟨y, k1, fun e he => ?_, oneA xs, g2, h2, rep_refs (g := g') (g' := g2) rfl (fun n b hn => by simp at hn) rfl (fun n _ h => ⟨h, rfl⟩) h3 k2, ?_⟩
    · rcases k3 e he with ⟨a, rfl, ha⟩ | hk
      · exact .inl ⟨a, false, rfl, .inl ⟨seen_vis hi.mem.vis ha, fun h => by cases h⟩⟩
      · exact .inr (.inl hk)
    · have hm := hi.mem.mem
      have hv := hi.mem.vis
      have nM : ∀ b, x'.V.vis b → (¬ x.V.vis b) → x.w.heap.size ≤ b := fun b h1 h2 => (hv.dn b h1).resolve_left h2
      exact ⟨hm.below, hm.iold, fun b o h => (hm.inew b o h).imp id (fun h' => h'.elim id (nM b (hv.I b o h))), hm.cell, fun n b h1 h2 => ⟨(hm.ofr n b h1 h2).1.elim id (nM b (hv.sub b (hv.o n b h1 h2))), (hm.ofr n b h1 h2).2⟩, hm.oinj,
        ⟨⟨hv.sub, hv.lt⟩, hv.up, hv.upm, hv.dn, hv.dnm, hv.ext⟩, hv.I, hv.o⟩
  cases e with
  | normal => obtain ⟨s1, hw, xs, h1, h2, h3⟩ := hq; exact Or.inl (fin s1 hw xs h1 h2 h3)
  | ret => obtain ⟨s1, hw, xs, h1, h2, h3⟩ := hq; exact Or.inl (fin s1 hw xs h1 h2 h3)
  | _ => exact hq.elim

theorem callOkX {P : Program} {f nt : Nat} {fn : Func} {rs : Array ResultVar} {c : Code} {args : List AV} {tm : List (Nat × AV)} {R : AV → Prop} (hf : P.funcs[f]? = some fn) (hnt : fn.ntmps = nt) (hrs : fn.results = rs) (hb : fn.body = some c) (hn : Nat.ble args.length nt = true) (htm : iniO 0 args = some tm)
    (h : ∀ (B : Nat) (w0 : World) (M : Nat → Prop) (I0 : Nat → Nat → Prop) (V0 : Rig), V0.ext = .alone → W (enC P B w0 nt M I0 V0) c (retQ (enC P B w0 nt M I0 V0) rs.toList R) ⟨tm, [], []⟩) : CallOkA P f args R :=
  CallOkA_of_W hf hnt hrs hb (Nat.le_of_ble_eq_true hn) (by rw [iniO_eq htm]; exact h)
theorem callOkA_dat {P : Program} {f : Nat} {args : List AV} {X Y : AV} (h : CallOkA P f args (fun r => r = X)) (hd : datO X = some Y) : CallOkA P f args (fun r => r = Y) := by
  intro L I x vals hal hI hx ha
  refine (h L I x vals hal hI hx ha).mono fun y x' he => ?_
  obtain ⟨r, g', rfl, h2, h3⟩ := he
  exact ⟨_, g', rfl, rep_dat hd h2, h3⟩
section
variable {E : En} {bl : List (Nat × List AV)} {tm : List (Nat × AV)} {d : Option Tmp} {ty : TypeId} {pos : String} {af : Array Edge} {gd : Option (Nat × Bool)}
theorem QV_callX (hal : E.V0.ext = .alone) {x : Operand} {xs : Array Operand} {ts : Array TypeId} {f : Nat} {ys : List AV} {r : AV} (k : Nat) (os : List Nat) [hf : FnOk E.P f] (h : CallOkA E.P f ys (fun r' => r' = r)) (hx : ev tm x = .v (.func (.func f) #[] #[])) (ha : LeDs (xs.toList.map (ev tm)) ys) (ho : ownsIn os r = true) :
    QV E bl tm ⟨d, .call ⟨.value x, xs, ts⟩, ty, pos, af, gd⟩ (ren k r) [] (os.map (k + ·)) := by
  intro L g ρ bl' ow' w hm hbl _ hno hop w₁ rw₁
  have hg := hm.goes rw₁
  have hm1 := hm.rely rw₁
  have h1 := rep_goes hg (hop x (by simp [Op.operands, Call.operands]))
  have h2 : reps g w₁ (xs.toList.map (ev tm)) (xs.toList.map ρ) := reps_map _ fun y hy => rep_goes hg (hop y (by simp [Op.operands, Call.operands] at hy ⊢; exact .inr hy))
  rw [hx] at h1
  simp only [rep] at h1
  obtain ⟨fn, f1, f2, f3⟩ := hf.ok
  have f2' : fn.name ≠ "runtime.NumGoroutine" := by simpa using f2
  have f3' : fn.body ≠ none := fun e => by rw [e] at f3; simp at f3
  have hrun : (execOp ρ ⟨d, .call ⟨.value x, xs, ts⟩, ty, pos, af, gd⟩).run E.P w₁ = .ok (.enter f (xs.map ρ)) w₁ := by
    simp [execOp, resolve, Deferred.ofValue, h1, invoke, callFunc, f1, f2', f3']
  have hevs : (execOp ρ ⟨d, .call ⟨.value x, xs, ts⟩, ty, pos, af, gd⟩).events E.P w₁ #[] = #[] := by
    simp [execOp, resolve, Deferred.ofValue, h1, invoke, callFunc, f1, f2', f3']
  rw [hrun]
  have hc := h L g.I ⟨w.V, w₁⟩ (xs.map ρ) (hm1.vis.ext.trans hal) (fun b o hb => ⟨hm1.mem.cell b o hb, hm1.vis.I b o hb⟩) ⟨hm1.vis.sub, hm1.vis.lt⟩ (by rw [Array.toList_map]; exact dreps_leDs ha h2)
  refine ⟨rfl, hevs, hc.mono fun y w' he => ?_⟩
  obtain ⟨r', g', rfl, h3, h4⟩ := he
  obtain ⟨gc, h5, h6, h7, h8⟩ := hm1.called h4 k os (fun n hn => hno _ (List.mem_map.2 ⟨n, hn, rfl⟩))
  exact ⟨gc, hg.trans h5, by simpa using h6, rep_ren h7 h8 ho h3⟩
theorem q_callX (hal : E.V0.ext = .alone) {x : Operand} {xs : Array Operand} {ts : Array TypeId} {f : Nat} {ys : List AV} {r v : AV} [hf : FnOk E.P f] (h : CallOkA E.P f ys (fun r' => r' = r)) (hx : ev tm x = .v (.func (.func f) #[] #[])) (ha : LeDs (xs.toList.map (ev tm)) ys) (ho : ownsIn [] r = true) (hv : renO 0 r = some v) :
    QV E bl tm ⟨d, .call ⟨.value x, xs, ts⟩, ty, pos, af, gd⟩ v [] [] := by
  have := QV_callX (E := E) (bl := bl) (tm := tm) (d := d) (ty := ty) (pos := pos) (af := af) (gd := gd) (ts := ts) hal 0 [] h hx ha ho
  rw [renO_eq] at hv
  rw [← Option.some.inj hv]; exact this
theorem q_call1X (hal : E.V0.ext = .alone) {x : Operand} {xs : Array Operand} {ts : Array TypeId} {f : Nat} {ys : List AV} {r v : AV} (k n : Nat) [hf : FnOk E.P f] (h : CallOkA E.P f ys (fun r' => r' = r)) (hx : ev tm x = .v (.func (.func f) #[] #[])) (ha : LeDs (xs.toList.map (ev tm)) ys) (ho : ownsIn [n] r = true) (hv : renO k r = some v) :
    QV E bl tm ⟨d, .call ⟨.value x, xs, ts⟩, ty, pos, af, gd⟩ v [] [k + n] := by
  have := QV_callX (E := E) (bl := bl) (tm := tm) (d := d) (ty := ty) (pos := pos) (af := af) (gd := gd) (ts := ts) hal k [n] h hx ha ho
  rw [renO_eq] at hv
  rw [← Option.some.inj hv]; exact this
theorem q_callAX (hal : E.V0.ext = .alone) {x : Operand} {xs : Array Operand} {ts : Array TypeId} {f : Nat} {ys : List AV} {r v : AV} [hf : FnOk E.P f] (h : CallOkA E.P f ys (fun r' => r' = r)) (hx : ev tm x = .v (.func (.func f) #[] #[]) := by exact rfl) (ha : LeDs (xs.toList.map (ev tm)) ys := by (repeat' (first | exact LeDs.nil | refine LeDs.cons (by first | exact LeD.v | exact LeD.sl | exact LeD.own | exact LeD.nil | exact LeD.top) ?_ | refine LeDs.agg ?_ ?_)); first | done | fail "open") (ho : ownsIn [] r = true := by exact rfl) (hv : renO 0 r = some v := by exact rfl) :
    QV E bl tm ⟨d, .call ⟨.value x, xs, ts⟩, ty, pos, af, gd⟩ v [] [] := q_callX hal h hx ha ho hv
theorem q_call1AX (hal : E.V0.ext = .alone) {x : Operand} {xs : Array Operand} {ts : Array TypeId} {f : Nat} {ys : List AV} {r v : AV} (k n : Nat) [hf : FnOk E.P f] (h : CallOkA E.P f ys (fun r' => r' = r)) (hx : ev tm x = .v (.func (.func f) #[] #[]) := by exact rfl) (ha : LeDs (xs.toList.map (ev tm)) ys := by (repeat' (first | exact LeDs.nil | refine LeDs.cons (by first | exact LeD.v | exact LeD.sl | exact LeD.own | exact LeD.nil | exact LeD.top) ?_ | refine LeDs.agg ?_ ?_)); first | done | fail "open") (ho : ownsIn [n] r = true := by exact rfl) (hv : renO k r = some v := by exact rfl) :
    QV E bl tm ⟨d, .call ⟨.value x, xs, ts⟩, ty, pos, af, gd⟩ v [] [k + n] := q_call1X hal k n h hx ha ho hv
end
section
variable {E : En} {ops : Array Oper} {rest : List Oper} {Q : Exit → St → Prop} {K : St → Prop} {tm : List (Nat × AV)} {bl bl0 : List (Nat × List AV)} {ow : List Nat} {d : Nat} {op : Op} {ty : TypeId} {pos : String} {af : Array Edge} {gd : Option (Nat × Bool)} {v : AV} {cs : List AV}
end
end Go.Eng
