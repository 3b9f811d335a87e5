/- The argument of SignalSpreads opened where what is read is of bulk at most 1048576: the lengths are so bounded. -/
import Derived.Test.YtameidoaenoppaaGreatDoorCt
namespace Go.Proofs.YtameidoaenoppaaGreatDoor
open Go.ChangeShapes Go.WideShapes Go.ChangeAt Go.RowKit Go.Deep
theorem bulk_one {H : Type} (d : DataW H) : 1 ≤ Rows.uptoBulk d := by
  cases d with
  | lit l => cases l <;> simp [Rows.uptoBulk]
  | nil => simp [Rows.uptoBulk]
  | ptr d => simp [Rows.uptoBulk]
  | slice elems spare => simp [Rows.uptoBulk]
  | agg parts => simp [Rows.uptoBulk]
  | iface t d => simp [Rows.uptoBulk]
  | map entries => simp [Rows.uptoBulk]
  | held h => simp [Rows.uptoBulk]
theorem bulk_len {H : Type} : ∀ l : List (DataW H), l.length ≤ Rows.uptoBulkAll l
  | [] => by simp
  | x :: r => by
    have h1 := bulk_one x
    have h2 := bulk_len r
    simp only [Rows.uptoBulkAll, List.length_cons]
    omega
section
variable {H : Type} {enc : TypeId × Value → H} {w : World} {base : Nat} {spare : Nat → Bool} {held : Bool}
theorem open_fieldU {α : Type} {P : Program} {E : El α} {Pr : α → Prop} {t e : TypeId} {fuel : Nat} {v : Value} {x : DataW H × List MemPlace} (ht : P.underlying t = some (.slice e)) (hwt : ∀ z ∈ x.1.weights P t, z ≤ reachBytes) (h : DataW.trod enc P w base spare held fuel t [v] = some x)
    (src : ∀ (A : Option Addr) (len cap : Nat), DataW.trod enc P w base spare held fuel t [.slice A len cap] = some x → ∃ l : List α, l.length = len ∧ (∀ y ∈ l, Pr y) ∧ Src w E A cap l ∧ len ≤ maxLen ∧ (x.1 = .nil ∧ len = 0 ∨ ∃ el sp, x.1 = .slice el sp ∧ el.length = len)) :
    ∃ (A : Option Addr) (cap : Nat) (l : List α), v = .slice A l.length cap ∧ l.length ≤ cap ∧ (∀ y ∈ l, Pr y) ∧ Src w E A cap l ∧ l.length * P.bytesOf e ≤ reachBytes ∧ l.length ≤ Rows.uptoBulk x.1 := by
  have key : ∀ (A : Option Addr) (len cap : Nat), v = .slice A len cap → len ≤ cap → ∃ (A : Option Addr) (cap : Nat) (l : List α), v = .slice A l.length cap ∧ l.length ≤ cap ∧ (∀ y ∈ l, Pr y) ∧ Src w E A cap l ∧ l.length * P.bytesOf e ≤ reachBytes ∧ l.length ≤ Rows.uptoBulk x.1 := fun A len cap hv hl => by
    subst hv
    obtain ⟨l, rfl, h2, h3, _, h5⟩ := src A len cap h
    refine ⟨A, cap, l, rfl, hl, h2, h3, ?_⟩
    rcases h5 with ⟨_, h5⟩ | ⟨el, sp, h5, h6⟩
    · rw [h5]; simp
    · have := hwt ((el.length + sp.length) * P.bytesOf e) (by rw [h5]; simp only [DataW.weights, ht]; exact List.mem_cons_self ..)
      have h7 := bulk_len el
      rw [h5, ← h6]
      refine ⟨Nat.le_trans (Nat.mul_le_mul_right _ (Nat.le_add_right _ _)) this, ?_⟩
      simp only [Rows.uptoBulk]
      omega
  rcases open_slice ht h with ⟨hcs, _⟩ | ⟨a, len, cap, m, n, D, Pl, hcs, _, hl, _⟩
  · simp only [List.cons.injEq, and_true] at hcs
    exact key none 0 0 hcs (Nat.le_refl _)
  · simp only [List.cons.injEq, and_true] at hcs
    exact key (some a) len cap hcs hl
set_option maxRecDepth 100000 in
theorem openCaseU {v : Value} {d : DataW H} {p : List MemPlace} {r : Reach} {b0 : Nat} (hv : Value.okWide Tryz.prog w r b0 26 v) (h : DataW.Trod enc Tryz.prog w base spare held 26 v d p) (hk : Rows.uptoBulk d ≤ 1048576) (hwt : ∀ z ∈ d.weights Tryz.prog 26, z ≤ reachBytes) :
    ∃ (A0 : Option Addr) (c0 : Nat) (ops : List OpM) (A1 : Option Addr) (c1 : Nat) (live : List Int) (A2 : Option Addr) (c2 : Nat) (traps : List Int) (A3 : Option Addr) (c3 : Nat) (vs : List Dv) (ds : List Dth),
      v = caseV A0 c0 ops.length A1 c1 live.length A2 c2 traps.length A3 c3 vs.length ∧ CaseM w A0 c0 ops A1 c1 live A2 c2 traps A3 c3 vs ds ∧ live.length ≤ 2000000 ∧ traps.length ≤ 2000000 ∧ vs.length ≤ 2000000 := by
  obtain ⟨u0, u1, u2, u3, y0, y1, y2, y3, m, rfl, rfl, rfl, t0, t1, t2, t3⟩ := Go.Joins.open_agg4 Tryz.underlying26 (by kernel_rfl) (by kernel_rfl) hv h
  have hw : ∀ (j : Nat) (t : TypeId) (y : DataW H), [22, 23, 23, 24][j]? = some t → [y0.1, y1.1, y2.1, y3.1][j]? = some y → ∀ z ∈ y.weights Tryz.prog t, z ≤ reachBytes := fun j t y ht hy z hz => hwt z (by
    simp only [DataW.weights, Tryz.underlying26]
    exact DataW.weights_mem_each (j := j) ht hy z hz)
  simp only [Rows.uptoBulk, Rows.uptoBulkAll] at hk
  obtain ⟨A0, c0, l0, e0, _, _, s0, b0, k0⟩ := open_fieldU (E := eOp) (Pr := fun _ => True) Tryz.underlying22 (hw 0 _ _ rfl rfl) t0 (fun A len cap h => openPW h)
  obtain ⟨A1, c1, l1, e1, _, _, s1, b1, k1⟩ := open_fieldU (E := eI64) (Pr := fun _ => True) Tryz.underlying23 (hw 1 _ _ rfl rfl) t1 (fun A len cap h => openIW h)
  obtain ⟨A2, c2, l2, e2, _, _, s2, b2, k2⟩ := open_fieldU (E := eI64) (Pr := fun _ => True) Tryz.underlying23 (hw 2 _ _ rfl rfl) t2 (fun A len cap h => openIW h)
  obtain ⟨A3, c3, l3, e3, cc, p3, s3, b3, k3⟩ := open_fieldU (E := eDv) (Pr := DvG w) Tryz.underlying24 (hw 3 _ _ rfl rfl) t3 (fun A len cap h => openDW (hw 3 _ _ rfl rfl) h)
  obtain ⟨ds, hd, h4⟩ := all_rd l3 p3
  subst e0
  subst e1
  subst e2
  subst e3
  rw [bytes_op] at b0
  rw [bytes_i64] at b1 b2
  rw [bytes_dv] at b3
  simp only [reachBytes] at b0 b1 b2 b3
  exact ⟨A0, c0, l0, A1, c1, l1, A2, c2, l2, A3, c3, l3, ds, rfl, ⟨s0, s1, s2, s3, hd, by omega, by omega, by omega, by omega, cc, h4⟩, by omega, by omega, by omega⟩
end
end Go.Proofs.YtameidoaenoppaaGreatDoor
