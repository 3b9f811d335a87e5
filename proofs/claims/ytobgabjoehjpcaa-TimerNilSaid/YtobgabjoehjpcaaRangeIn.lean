/- A range over a function whose iterator itself ranges over another one: the law for the outer loop, whose body turns a few boxes alone; make and copy within a fence; no condition. -/
import Derived.Test.YtobgabjoehjpcaaRange
import Derived.Test.YtobgabjoehjpcaaMkCopy
namespace Go.Proofs.Ytobgabjoehjpcaa
open Go.RowKit Go.Shelf

/-- As SeqStopsK; what has been told abides also the turn of a loop's record that was laid since the call. -/
def SeqS {α : Type} (F : Fence) (n : Nat) (P : Program) (g : Nat) (lb : Array Value) (encs : α → Array Value) (X : Nat → Nat → Prop) (L : List α) (w : World) : Prop :=
  ∀ (l : Nat) (J Jx : List α → World → Prop) (W : World), Below w.heap.size w W → l < W.heap.size → OwnFrom W.heap.size J → OwnFrom W.heap.size Jx →
    (∀ pre x W1, J pre W1 → pre.length < L.length → YieldAt F (n - 1) P l (encs x) W1 fun e W' =>
      (e = .returned (.bool true) ∧ J (pre ++ [x]) W' ∧ Chg (X l) W1 W') ∨ (e = .returned (.bool false) ∧ Jx (pre ++ [x]) W' ∧ Chg (X l) W1 W')) →
    J [] W →
    CallsIn F n P g (#[.func (.yield l) #[] #[]] ++ lb) W fun e W' => (∃ v, e = .returned v) ∧ (J L W' ∨ ∃ pre, pre <+: L ∧ Jx pre W')

theorem putObj_chg (W : World) (l : Nat) (o : Obj) : Chg (fun k => k = l) W (W.putObj l o) := (chg_grown (grownBy_putObj' W l o)).mono fun _ _ h => (by cases h; rfl)

/-- How a round's body may end: it has turned the boxes Y alone. -/
def bodyPost {α : Type} (Y : Nat → Prop) (I : List α → World → Prop) (Ix : List α → World → Prop) (xs : List α) (W : World) : Exit → Act → World → Prop
  | .normal, _, W' => Chg Y W W' ∧ I xs W'
  | .ret, _, W' => Chg Y W W' ∧ Ix xs W'
  | _, _, _ => False

section
variable {F : Fence} {n : Nat} {P : Program}
theorem range_own {α : Type} {g : Operand} {ps : Array Tmp} {assign body : Code} {Q : Exit → Act → World → Prop} {a : Act} {w : World}
    (hro : F.round = none) (h1 : 1 ≤ n) {gf : Nat} {lb : Array Value} (hg : a.eval g = .func (.func gf) #[] lb) (hFg : F.fn gf) (eg : ∀ args w, (callFunc gf args).run P w = .ok (.enter gf args) w)
    {encs : α → Array Value} {Y : Nat → Prop} {L : List α} {w0 : World} (hseq : SeqS F (n - 1) P gf lb encs (fun l k => Y k ∨ k = l) L w0)
    (hY : ∀ k, Y k → k < w.heap.size) (hb0 : Below w0.heap.size w0 w) (hps : ∀ x, (encs x).size = ps.size)
    (I Ix : List α → World → Prop) (hI : OwnFrom w.heap.size I) (hIx : OwnFrom w.heap.size Ix) (h0 : I [] w) (a₁ : α → Act)
    (hassign : ∀ (l : Nat) (x : α) (W : World) (K : Act → World → Prop), K (a₁ x) W →
      assign.wpIn (F.inRound l) (n - 1 - 1) P (Exit.then K (fun _ _ _ => False)) { tmps := (ps.zip (encs x)).foldl (fun t (p, v) => t.setIfInBounds p v) a.tmps, defers := [] } W)
    (hbody : ∀ (l : Nat) (pre : List α) (x : α) (W : World), I pre W → pre.length < L.length → body.wpIn (F.inRound l) (n - 1 - 1) P (bodyPost Y I Ix (pre ++ [x]) W) (a₁ x) W)
    (hdone : ∀ (D : Nat) (W : World), w.heap.size ≤ D → I L W → W.heap[D]? = some (.deferred (some [])) → Q .normal { a with defers := { target := .collected D, args := #[] } :: a.defers } W)
    (hstop : ∀ (D : Nat) (pre : List α) (W : World), w.heap.size ≤ D → pre <+: L → Ix pre W → W.heap[D]? = some (.deferred (some [])) → Code.ret.wpIn F n P Q { a with defers := { target := .collected D, args := #[] } :: a.defers } W) :
    (Code.rangeFunc g ps assign body).wpIn F n P Q a w := by
  refine wpIn_rangeFunc (fun fn hfn => ?_)
  rw [hro]
  have hdef : ∃ r : LoopState → Option Code → Loop, ∀ st pe, r st pe = { state := st, pending := pe, fn, tmps := a.tmps, params := ps, assign, body, defers := w.heap.size } := ⟨fun st pe => _, fun _ _ => rfl⟩
  obtain ⟨r, hr⟩ := hdef
  obtain ⟨D, hD⟩ : ∃ D, D = w.heap.size := ⟨_, rfl⟩
  obtain ⟨V, hV⟩ : ∃ V, V = (w.alloc (.deferred (some []))).alloc (.loop (r .ready none)) := ⟨_, rfl⟩
  have hVs : V.heap.size = D + 2 := by rw [hV, hD]; simp
  have hVl : V.heap[D + 1]? = some (.loop (r .ready none)) := by
    have := blk_new (w.alloc (.deferred (some []))) (.loop (r .ready none))
    rwa [← hV, World.size_alloc, ← hD] at this
  have hVd : V.heap[D]? = some (.deferred (some [])) := by rw [hV, hD]; exact blk_alloc (blk_new w _) _
  have hVb : Below w0.heap.size w0 V := by
    have := hb0.size
    rw [hV]; exact (hb0.alloc hb0.size _).alloc (by simp; omega) _
  -- what abides
  have keep : ∀ {A B : World} {row : Option Nat} {k : Nat} {o : Obj}, A.grownBy B row → (∀ j, row = some j → V.heap.size ≤ j ∧ ∃ o : Obj, A.heap[j]? = some o ∧ o.isCells = false) → k < D + 2 → A.heap[k]? = some o → B.heap[k]? = some o := fun hab hrow hk hA =>
    (hab.block _ (lt_of_block hA) (fun e => by have := (hrow _ e.symm).1; omega)).trans hA
  have wide : ∀ {A : World} {row : Option Nat}, (∀ j, row = some j → V.heap.size ≤ j ∧ ∃ o : Obj, A.heap[j]? = some o ∧ o.isCells = false) → ∀ j, row = some j → w.heap.size ≤ j ∧ ∃ o : Obj, A.heap[j]? = some o ∧ o.isCells = false :=
    fun hrow j e => ⟨by have := (hrow j e).1; omega, (hrow j e).2⟩
  refine ⟨D + 1, [{ target := .collected D, args := #[] }], V, { target := .fn (.func gf) lb, args := #[.func (.yield (D + 1)) #[] #[]] }, V, gf, #[.func (.yield (D + 1)) #[] #[]] ++ lb, V, ?_, ?_, ?_, ?_, fun _ => h1, ?_⟩
  · rw [hD, hV, hr]; exact run_enterLoop_outer _ _ _ _ _
  · simp only [resolve, hg]; simp [go_sem]
  · intro f' hf'
    simp [Target.leads] at hf'
    subst hf'
    exact hFg
  · simp [invoke, go_sem, eg]
  refine (hseq (D + 1) (fun pre W => I pre W ∧ W.heap[D + 1]? = some (.loop (r .ready none)) ∧ W.heap[D]? = some (.deferred (some [])))
    (fun pre W => Ix pre W ∧ W.heap[D + 1]? = some (.loop (r .done (some .ret))) ∧ W.heap[D]? = some (.deferred (some []))) V hVb (by omega)
    (fun s A B row hs hab hrow => ⟨hI s A B row hs.1 hab (wide hrow), keep hab hrow (by omega) hs.2.1, keep hab hrow (by omega) hs.2.2⟩)
    (fun s A B row hs hab hrow => ⟨hIx s A B row hs.1 hab (wide hrow), keep hab hrow (by omega) hs.2.1, keep hab hrow (by omega) hs.2.2⟩)
    ?round ⟨by rw [hV]; exact hI.alloc _ (hI.alloc _ h0), hVl, hVd⟩).mono ?after
  case round =>
    rintro pre x W ⟨hi, hl, hd⟩ hlen
    have hlt := lt_of_block hl
    have hy := run_yield (P := P) (args := encs x) hl (by rw [hr]; exact hps x)
    rw [hr] at hy
    refine ⟨fn, _, assign, body, hy, roundIn_of_wpIn hfn (hassign _ x W _ ?_)⟩
    refine ⟨_, run_beginRound hl (by rw [hr]), ?_⟩
    obtain ⟨b, hb⟩ : ∃ b : Loop, b = { r .ready none with state := .busy } := ⟨_, rfl⟩
    rw [← hb]
    have hl2 : (W.putObj (D + 1) (.loop b)).heap[D + 1]? = some (.loop b) := World.putObj_heap_same hlt
    have hd2 : (W.putObj (D + 1) (.loop b)).heap[D]? = some (.deferred (some [])) := (World.putObj_heap_other (by omega)).trans hd
    refine wpIn_mono (hbody _ pre x _ (hI.putObj _ hi (by omega) hl rfl) hlen) ?_
    have stay : ∀ {W3 : World}, Chg Y (W.putObj (D + 1) (.loop b)) W3 → W3.heap[D + 1]? = some (.loop b) ∧ W3.heap[D]? = some (.deferred (some [])) := fun hc =>
      ⟨(hc.block _ (lt_of_block hl2) (fun h => by have := hY _ h; omega)).trans hl2, (hc.block _ (lt_of_block hd2) (fun h => by have := hY _ h; omega)).trans hd2⟩
    have ends : ∀ (jump : Option Code) {W3 : World}, W3.heap[D + 1]? = some (.loop b) →
        (Instr.endRound (D + 1) jump).run P W3 = .ok (.bool jump.isNone) (W3.putObj (D + 1) (.loop (r (if jump.isNone then .ready else .done) jump))) := fun jump W3 h3 => by
      have := run_endRound (P := P) jump h3
      rw [hb] at this
      rw [hr] at this ⊢
      exact this
    rintro e a3 W3 hp
    cases e with
    | normal =>
      obtain ⟨hc3, hi3⟩ := hp
      obtain ⟨hl3, hd3⟩ := stay hc3
      refine ⟨_, _, ends none hl3, .inl ⟨rfl, ⟨hI.putObj _ hi3 (by omega) hl3 rfl, World.putObj_heap_same (lt_of_block hl3), (World.putObj_heap_other (by omega)).trans hd3⟩, ?_⟩⟩
      have c1 : Chg (fun k => Y k ∨ k = D + 1) W (W.putObj (D + 1) (.loop b)) := (putObj_chg W (D + 1) _).mono fun _ _ h => .inr h
      have c2 : Chg (fun k => Y k ∨ k = D + 1) (W.putObj (D + 1) (.loop b)) W3 := hc3.mono fun _ _ h => .inl h
      have c3 : Chg (fun k => Y k ∨ k = D + 1) W3 (W3.putObj (D + 1) (.loop (r .ready none))) := (putObj_chg W3 (D + 1) _).mono fun _ _ h => .inr h
      exact (c1.trans c2 (fun _ _ h => h)).trans c3 (fun _ _ h => h)
    | ret =>
      obtain ⟨hc3, hi3⟩ := hp
      obtain ⟨hl3, hd3⟩ := stay hc3
      refine ⟨_, _, ends (some .ret) hl3, .inr ⟨rfl, ⟨hIx.putObj _ hi3 (by omega) hl3 rfl, World.putObj_heap_same (lt_of_block hl3), (World.putObj_heap_other (by omega)).trans hd3⟩, ?_⟩⟩
      have c1 : Chg (fun k => Y k ∨ k = D + 1) W (W.putObj (D + 1) (.loop b)) := (putObj_chg W (D + 1) _).mono fun _ _ h => .inr h
      have c2 : Chg (fun k => Y k ∨ k = D + 1) (W.putObj (D + 1) (.loop b)) W3 := hc3.mono fun _ _ h => .inl h
      have c3 : Chg (fun k => Y k ∨ k = D + 1) W3 (W3.putObj (D + 1) (.loop (r .done (some .ret)))) := (putObj_chg W3 (D + 1) _).mono fun _ _ h => .inr h
      exact (c1.trans c2 (fun _ _ h => h)).trans c3 (fun _ _ h => h)
    | exit _ => exact hp.elim
    | goto _ => exact hp.elim
    | panic _ => exact hp.elim
    | outgrown => exact hp.elim
  case after =>
    rintro e W2 ⟨⟨v, rfl⟩, ⟨hi, hl, hd⟩ | ⟨pre, hpre, hi, hl, hd⟩⟩
    · have he := run_endLoop (P := P) hl (by rw [hr]; simp)
      rw [hr] at he
      exact ⟨none, _, he, hdone _ _ (by omega) (hI.putObj _ hi (by omega) hl rfl) ((World.putObj_heap_other (by omega)).trans hd)⟩
    · have he := run_endLoop (P := P) hl (by rw [hr]; simp)
      rw [hr] at he
      exact ⟨some .ret, _, he, hstop _ pre _ (by omega) hpre (hIx.putObj _ hi (by omega) hl rfl) ((World.putObj_heap_other (by omega)).trans hd)⟩

variable {α : Type} {w : World} {t e : TypeId} {E : El α} {by_ : Nat} {l : List α}
variable {ops : Array Oper} {rest : List Oper} {o : Oper} {a : Act} {Q : Exit → Act → World → Prop}
/-- make([]T, n), within a fence. -/
theorem make_evIn (hT : SlT P t e E by_) (hgd : o.guard = none) (x y : Operand) (ho : o.op = Op.makeSlice t x y)
    (n' : Nat) (hx : a.eval x = .int .i64 (n' : Int)) (hy : a.eval y = .int .i64 (n' : Int)) (hb : by_ * n' ≤ 281474976710656) (h63 : n' ≤ maxLen)
    (h : ∀ cur w', Kp (w'.heap[w.heap.size]? = some (.cells cur e (0, 0))) → Kp (cur.size = n' * E.k) → Below w.heap.size w w' → wpListIn F n P ops Q rest (a.put o.dst (.slice (some ⟨w.heap.size, 0, none⟩) n' n')) w') :
    wpListIn F n P ops Q (o :: rest) a w := by
  obtain ⟨cur, w', hr, h2, h3, h4⟩ := run_makek hT w n' hb h63
  refine wpListIn_plain hgd fun K hK => ?_
  unfold Oper.wpIn
  refine ⟨?_, ?_⟩
  · simp [Oper.about, ho]
  · rw [Oper.semAt_plain F _ _ (by rw [ho]; intro c hc'; cases hc')]
    simp [execOp, ho, hx, hy, hr, Result.andThen]
    exact hK _ _ (h _ _ ⟨h2⟩ ⟨h3⟩ h4)
/-- copy(new, old), new as long as old, within a fence. -/
theorem copy_evIn (hT : SlT P t e E by_) (hgd : o.guard = none) (x y : Operand) {sT : TypeId} (ho : o.op = .call { callee := .builtin .copy, args := #[x, y], argTypes := #[t, sT] })
    {g m c : Nat} {cur : Array Value} {A : Option Addr} (hx : a.eval x = .slice (some ⟨g, 0, none⟩) m m) (hy : a.eval y = .slice A m c) (hn : m = l.length) (hs : Src w E A c l)
    (hg : w.heap[g]? = some (.cells cur e (0, 0))) (hc : cur.size = m * E.k) (hm : m ≤ maxLen)
    (h : ∀ w', Own w' e E (.slice (some ⟨g, 0, none⟩) m m) l → Chg (fun x => x = g) w w' → wpListIn F n P ops Q rest (a.put o.dst (goInt m)) w') :
    wpListIn F n P ops Q (o :: rest) a w := by
  obtain ⟨w', hr, h2, h3⟩ := run_copyk (ty := o.type) (sT := sT) hT hn hs hg hc hm
  refine wpListIn_plain hgd fun K hK => ?_
  unfold Oper.wpIn
  refine ⟨?_, ?_⟩
  · simp [Oper.about, ho, resolve, Target.leads, Sem.run_pure]
  · rw [Oper.semAt_plain F _ _ (by rw [ho]; intro c hc'; cases hc')]
    simp [execOp, ho, resolve, invoke, builtin, hx, hy, hr, Result.andThen]
    exact hK _ _ (h _ h2 h3)
end
end Go.Proofs.Ytobgabjoehjpcaa
