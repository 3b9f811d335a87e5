/- What Push, Pop, Remove of container/heap do over package timer's queue; no condition but bounds. -/
import Derived.Test.YtobgabjoehjpcaaD
namespace Go.Proofs.Ytobgabjoehjpcaa
open Go.RowKit

/-- The wheel in memory. -/
structure IsWh (w : World) (p : Nat) (qv : Value) (l : List Ent) (tn : Int) : Prop where
  blk : w.heap[p]? = some (.cells #[qv, .int .i64 tn] 58 (0, 0))
  own : Own w 60 eEnt qv l
def FW (p : Nat) (qv : Value) : Nat → Prop := fun g => g = p ∨ qv.ownBlock = some g
def Same (w : World) (v v' : Value) : Prop := v'.ownBlock = v.ownBlock ∨ ∃ g, v'.ownBlock = some g ∧ w.heap.size ≤ g
section
variable {w w' : World} {p : Nat} {qv : Value} {l : List Ent} {tn : Int}
theorem IsWh.c0 (h : IsWh w p qv l tn) : w.cell? ⟨p, 0, none⟩ = some qv := blk_c h.blk 0
theorem IsWh.c1 (h : IsWh w p qv l tn) : w.cell? ⟨p, 1, none⟩ = some (.int .i64 tn) := blk_c h.blk 1
theorem IsWh.fz (h : IsWh w p qv l tn) (k : Nat) : w.frozen? ⟨p, k, none⟩ = false := blk_f h.blk k
theorem IsWh.lt (h : IsWh w p qv l tn) : p < w.heap.size := lt_of_block h.blk
theorem IsWh.ne (h : IsWh w p qv l tn) : qv.ownBlock ≠ some p := h.own.ne h.blk (by decide)
theorem IsWh.frame (h : IsWh w p qv l tn) {F : Nat → Prop} (hc : Chg F w w') (hF : ∀ g, FW p qv g → ¬ F g) : IsWh w' p qv l tn :=
  ⟨hc.at h.blk (hF p (.inl rfl)), h.own.frame hc fun g hg => hF g (.inr hg)⟩
theorem IsWh.below (h : IsWh w p qv l tn) (hb : Below w.heap.size w w') : IsWh w' p qv l tn := h.frame (Chg.of_below hb NoF) fun _ _ h => h
theorem IsWh.drew (h : IsWh w p qv l tn) : IsWh w.drew p qv l tn := ⟨h.blk, h.own.drew⟩
theorem IsWh.setQ {qv' : Value} {l' : List Ent} (hb : w.heap[p]? = some (.cells #[qv, .int .i64 tn] 58 (0, 0))) (ho : Own w 60 eEnt qv' l') : IsWh (w.setCell ⟨p, 0, none⟩ qv') p qv' l' tn :=
  ⟨by rw [blk_set hb]; rfl, ho.set_ne (ho.ne hb (by decide)) _⟩
/-- Its own row turned alone. -/
theorem IsWh.row (h : IsWh w p qv l tn) {g : Nat} (hg : qv.ownBlock = some g) {l' : List Ent} (hc : Chg (fun x => x = g) w w') (ho : Own w' 60 eEnt qv l') : IsWh w' p qv l' tn :=
  ⟨hc.at h.blk (fun e => h.ne (by rw [hg, e])), ho⟩
end
def PushPost (w : World) (p : Nat) (qv : Value) (l' : List Ent) (tn : Int) (e : Ending) (w' : World) : Prop :=
  (∃ v, e = .returned v) ∧ ∃ qv', IsWh w' p qv' l' tn ∧ Same w qv qv' ∧ Chg (FW p qv) w w'
theorem assert60 (v : Value) (w : World) : (Instr.typeAssert (.iface 60 v) 20 60 false).run Try.prog w = .ok v w := by
  simp [Instr.typeAssert, run_underlying Try.underlying60]
set_option maxRecDepth 100000 in
set_option maxHeartbeats 1000000 in
theorem push_any (w : World) (p : Nat) (qv : Value) (l : List Ent) (tn : Int) (x : Ent) (h : IsWh w p qv l tn) (hn : l.length ≤ 1000000) :
    Calls Try.prog 88 #[.pointer (some ⟨p, 0, none⟩), .iface 60 (.agg #[.int .i64 x.ref, .int .i64 x.dl, .int .i64 x.tn])] w (PushPost w p qv (l ++ [x]) tn) := by
  obtain ⟨A, c, hv, _⟩ := h.own.shape
  have q := h.c0
  rw [hv] at q
  have qf := h.fz 0
  have hown := h.own.drew
  rw [hv] at hown
  have hne := h.ne
  have hpl := h.lt
  have HV := Kp.mk hv
  have HH := Kp.mk h
  have HNE := Kp.mk hne
  have hta := assert60
  clear h hv hne
  go_enter Try.func88, Try.ntmps88
  go_region_law ((refine app1_step T56 x rfl _ _ rfl hown rfl rfl rfl (by simp) rfl (by omega) (by omega) ?_; intro A' n' c' w1 a0 a1 a2 a3; have B1 := a2.at (w := w.drew) HH.out.blk (by rw [← HV.out]; exact HNE.out); have q1 : w1.cell? ⟨p, 0, none⟩ = some (.slice A l.length c) := (by rw [blk_c B1, ← HV.out]; rfl); have qf1 := blk_f B1 0; have pl1 := lt_of_block B1))
  all_goals
    go_end0
    refine ⟨⟨_, rfl⟩, _, IsWh.setQ B1 a1, ?_, ?_⟩
    · rw [HV.out]
      rcases a3 with h | ⟨g, h, h2⟩
      · exact .inl h
      · exact .inr ⟨g, h, h2⟩
    · rw [HV.out]
      exact (((Chg.refl _ w).drew).then (a2.mono fun g _ hg => .inr hg)).set (p := ⟨p, 0, none⟩) (.inl (.inl rfl)) _
set_option maxRecDepth 100000 in
set_option maxHeartbeats 1000000 in
theorem hpush_any (w : World) (p : Nat) (qv : Value) (l : List Ent) (tn : Int) (x : Ent) (h : IsWh w p qv l tn) (hn : l.length ≤ 900000) :
    Calls Try.prog 30 #[.iface 62 (.pointer (some ⟨p, 0, none⟩)), .iface 60 (.agg #[.int .i64 x.ref, .int .i64 x.dl, .int .i64 x.tn])] w (PushPost w p qv (upL (l ++ [x]) l.length) tn) := by
  have hm := meth_push w p
  have HP := Kp.mk (push_any w p qv l tn x h (by omega))
  clear h
  go_enter Try.func30, Try.ntmps30
  go_wp2_with fail
  refine HP.out.mono ?_
  rintro e w1 ⟨⟨v, rfl⟩, qv', h1, hs, hc⟩
  obtain ⟨A, c, hv, _, _, hs0, hs1⟩ := h1.own.shape
  obtain ⟨g, rfl⟩ : ∃ g, A = some ⟨g, 0, none⟩ := by
    cases A with
    | none => have := (hs0 rfl).1; simp at this
    | some a => obtain ⟨g, rfl⟩ := hs1 a rfl; exact ⟨g, rfl⟩
  rw [List.length_append, List.length_singleton] at hv
  have c0 := h1.c0
  rw [hv] at c0
  have hml := meth_len w1 p _ c0
  have hpg : p ≠ g := fun e => h1.ne (by rw [hv, e]; rfl)
  have ho := h1.own
  rw [hv] at ho
  have HU := Kp.mk (up_any w1 p g (l.length + 1) c l.length (l ++ [x]) c0 hpg ho (by simp) (by omega) (by omega))
  have H1 := Kp.mk h1
  have HV := Kp.mk hv
  have HS := Kp.mk hs
  have HC := Kp.mk hc
  clear h1 hv hs hc ho hs0 hs1 hm HP
  go_wp2_with fail
  refine (len_any w1 _ _ _).mono ?_
  rintro e w2 ⟨rfl, rfl⟩
  go_wp2_with fail
  refine HU.out.mono ?_
  rintro e w2 ⟨⟨v2, rfl⟩, o2, c2⟩
  have O2 := Kp.mk o2
  have C2 := Kp.mk c2
  clear o2 c2 HU
  go_wp2
  go_end0
  refine ⟨⟨_, rfl⟩, qv', H1.out.row (by rw [HV.out]; rfl) C2.out (by rw [HV.out]; exact O2.out), HS.out, HC.out.trans C2.out fun x hx e => ?_⟩
  rcases HS.out with h | ⟨g', h, h2⟩
  · exact .inr (by rw [← h, HV.out, e]; rfl)
  · rw [HV.out] at h
    have e9 : g = g' := by simpa [Value.ownBlock] using h
    omega
end Go.Proofs.Ytobgabjoehjpcaa
