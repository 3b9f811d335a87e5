/- The tables of unicode/utf8 out of what the rows list; the arguments of package signal's law opened; no condition. -/
import Derived.Test.YtameidoaenoppaaGreatDoorRows
import Derived.Test.YtameidoaenoppaaGreatDoorWb
import Derived.Test.YtameidoaenoppaaGreatDoorArgsW
import Derived.PinnedBridge
import Derived.Lib.LaidU8T
import Derived.Lib.SmallJoins
import Derived.LaidMore
import Derived.Lay
import Derived.ProofKit
import Derived.OpenShut
import Derived.ShutString
namespace Go.Proofs.YtameidoaenoppaaGreatDoor
open Go.ChangeShapes Go.WideShapes Go.ChangeAt Go.RowKit Go.Deep

def laidL : List (String × DataW Unit) := [("unicode/utf8.acceptRanges", Rows.laid_unicode_utf8_acceptRanges), ("unicode/utf8.first", Rows.laid_unicode_utf8_first)]
theorem acc_eq : (Rows.laid_unicode_utf8_acceptRanges : DataW Unit) = Lib.acceptData := by kernel_rfl
theorem tabs_laid {W : World} (h : laidMetH Tryz.prog laidL W) : Tabs W := by
  rw [MakeChecks.laidMetH_plain _ _ _ (by kernel_rfl)] at h
  unfold laidL at h
  have h1 : laidMet Tryz.prog [("unicode/utf8.acceptRanges", Lib.acceptData), ("unicode/utf8.first", Lib.firstData)] W := by
    rw [← acc_eq, ← Pinned.utf8First_eq]
    exact h
  exact utf8Tabs_of_readsT (ρ := Tryz.decS_ren) ⟨Tryz.decS.t5, Tryz.decS.t119, Tryz.decS.t138, Tryz.decS.t139⟩ ⟨by kernel_rfl, by kernel_rfl, by kernel_rfl, by kernel_rfl, by kernel_rfl, by kernel_rfl, by kernel_rfl⟩ (Lib.laidMet.reads h1 (.tail _ (.head _))) (Lib.laidMet.reads h1 (.head _))
theorem bytes_ce : Tryz.prog.bytesOf 63 = 32 := by kernel_rfl
theorem bytes_dv : Tryz.prog.bytesOf 48 = 32 := by kernel_rfl
theorem bytes_op : Tryz.prog.bytesOf 56 = 32 := by kernel_rfl
theorem bytes_i64 : Tryz.prog.bytesOf 2 = 8 := by kernel_rfl
structure OpM where
  kind : Int
  a : Int
  b : Int
  ref : Int
def eOp : El OpM := ⟨4, fun o => [.int .i64 o.kind, .int .i64 o.a, .int .i64 o.b, .int .i64 o.ref], fun _ => rfl, fun _ u h => by simp at h; rcases h with rfl | rfl | rfl | rfl <;> rfl, by decide⟩
section
variable {H : Type} {enc : TypeId × Value → H} {w : World} {base : Nat} {spare : Nat → Bool} {held : Bool}
/-- A slice that is read, whatever kind its elements are. -/
theorem open_field {α : Type} {P : Program} {E : El α} {Pr : α → Prop} {t e : TypeId} {fuel : Nat} {v : Value} {x : DataW H × List MemPlace} (ht : P.underlying t = some (.slice e)) (hwt : ∀ z ∈ x.1.weights P t, z ≤ reachBytes) (h : DataW.trod enc P w base spare held fuel t [v] = some x)
    (src : ∀ (A : Option Addr) (len cap : Nat), DataW.trod enc P w base spare held fuel t [.slice A len cap] = some x → ∃ l : List α, l.length = len ∧ (∀ y ∈ l, Pr y) ∧ Src w E A cap l ∧ len ≤ maxLen ∧ (x.1 = .nil ∧ len = 0 ∨ ∃ el sp, x.1 = .slice el sp ∧ el.length = len)) :
    ∃ (A : Option Addr) (cap : Nat) (l : List α), v = .slice A l.length cap ∧ l.length ≤ cap ∧ (∀ y ∈ l, Pr y) ∧ Src w E A cap l ∧ l.length * P.bytesOf e ≤ reachBytes := by
  have key : ∀ (A : Option Addr) (len cap : Nat), v = .slice A len cap → len ≤ cap → ∃ (A : Option Addr) (cap : Nat) (l : List α), v = .slice A l.length cap ∧ l.length ≤ cap ∧ (∀ y ∈ l, Pr y) ∧ Src w E A cap l ∧ l.length * P.bytesOf e ≤ reachBytes := fun A len cap hv hl => by
    subst hv
    obtain ⟨l, rfl, h2, h3, _, h5⟩ := src A len cap h
    refine ⟨A, cap, l, rfl, hl, h2, h3, ?_⟩
    rcases h5 with ⟨_, h5⟩ | ⟨el, sp, h5, h6⟩
    · rw [h5]; simp
    · have := hwt ((el.length + sp.length) * P.bytesOf e) (by rw [h5]; simp only [DataW.weights, ht]; exact List.mem_cons_self ..)
      rw [← h6]
      exact Nat.le_trans (Nat.mul_le_mul_right _ (Nat.le_add_right _ _)) this
  rcases open_slice ht h with ⟨hcs, _⟩ | ⟨a, len, cap, m, n, D, Pl, hcs, _, hl, _⟩
  · simp only [List.cons.injEq, and_true] at hcs
    exact key none 0 0 hcs (Nat.le_refl _)
  · simp only [List.cons.injEq, and_true] at hcs
    exact key (some a) len cap hcs hl
theorem openCW {fuel : Nat} {A : Option Addr} {len cap : Nat} {x : DataW H × List MemPlace} (hwt : ∀ z ∈ x.1.weights Tryz.prog 46, z ≤ reachBytes) (h : DataW.trod enc Tryz.prog w base spare held fuel 46 [.slice A len cap] = some x) :
    ∃ l : List Ce, l.length = len ∧ (∀ y ∈ l, y.t.size ≤ 140737488355328) ∧ Src w eCe A cap l ∧ len ≤ maxLen ∧ (x.1 = .nil ∧ len = 0 ∨ ∃ el sp, x.1 = .slice el sp ∧ el.length = len) := by
  refine src_structs_w eCe (fun y => y.t.size ≤ 140737488355328) Tryz.underlying46 Tryz.underlying63 (by kernel_rfl) (by kernel_rfl) rfl (fun at_ hf => ?_) hwt h
  obtain ⟨v0, n0, y0, a0, t0, _⟩ := hf 0 _ rfl
  obtain ⟨v1, n1, y1, a1, t1, _⟩ := hf 1 _ rfl
  obtain ⟨v2, n2, y2, a2, t2, hw2⟩ := hf 2 _ rfl
  obtain ⟨s0, e0, _, _⟩ := DataW.trod_int Tryz.underlying3 t0
  obtain ⟨s1, e1, _, _⟩ := DataW.trod_int Tryz.underlying2 t1
  obtain ⟨s2, e2, x2, _⟩ := DataW.trod_string Tryz.underlying9 t2
  cases e0
  cases e1
  cases e2
  have hs : s2.size ≤ 140737488355328 := by
    have h1 := hw2 s2.data.toList.length (by rw [x2]; show _ ∈ DataW.weights Tryz.prog 9 _; simp [DataW.weights])
    have h2 : s2.data.toList.length = s2.size := by simp
    rw [h2] at h1
    simp only [reachBytes] at h1
    omega
  refine ⟨⟨s0, s1, s2⟩, hs, fun j u hu => ?_⟩
  match j, hu with
  | 0, hu => cases hu; exact a0
  | 1, hu => cases hu; exact a1
  | 2, hu => cases hu; exact a2
/-- A death that is read. -/
def DvG (w : World) (y : Dv) : Prop := ∃ r, y.n = r.length ∧ Src w eCe y.A y.c r ∧ TxG r ∧ r.length ≤ 4398046511000
theorem openDW {fuel : Nat} {A : Option Addr} {len cap : Nat} {x : DataW H × List MemPlace} (hwt : ∀ z ∈ x.1.weights Tryz.prog 24, z ≤ reachBytes) (h : DataW.trod enc Tryz.prog w base spare held fuel 24 [.slice A len cap] = some x) :
    ∃ l : List Dv, l.length = len ∧ (∀ y ∈ l, DvG w y) ∧ Src w eDv A cap l ∧ len ≤ maxLen ∧ (x.1 = .nil ∧ len = 0 ∨ ∃ el sp, x.1 = .slice el sp ∧ el.length = len) := by
  refine src_structs_w eDv (DvG w) Tryz.underlying24 Tryz.underlying48 (by kernel_rfl) (by kernel_rfl) rfl (fun at_ hf => ?_) hwt h
  obtain ⟨v0, n0, y0, a0, t0, _⟩ := hf 0 _ rfl
  obtain ⟨v1, n1, y1, a1, t1, hw1⟩ := hf 1 _ rfl
  obtain ⟨s0, e0, _, _⟩ := DataW.trod_int Tryz.underlying2 t0
  obtain ⟨B, c, l, e1, _, h2, h3, h4⟩ := open_field (E := eCe) (Pr := fun y : Ce => y.t.size ≤ 140737488355328) Tryz.underlying46 hw1 t1 (fun A len cap h => openCW hw1 h)
  cases e0
  subst e1
  rw [bytes_ce] at h4
  simp only [reachBytes] at h4
  refine ⟨⟨s0, B, l.length, c⟩, ⟨l, rfl, h3, h2, by omega⟩, fun j u hu => ?_⟩
  match j, hu with
  | 0, hu => cases hu; exact a0
  | 1, hu => cases hu; exact a1
theorem openIW {fuel : Nat} {A : Option Addr} {len cap : Nat} {x : DataW H × List MemPlace} (h : DataW.trod enc Tryz.prog w base spare held fuel 23 [.slice A len cap] = some x) :
    ∃ l : List Int, l.length = len ∧ (∀ y ∈ l, True) ∧ Src w eI64 A cap l ∧ len ≤ maxLen ∧ (x.1 = .nil ∧ len = 0 ∨ ∃ el sp, x.1 = .slice el sp ∧ el.length = len) := by
  refine src_ones eI64 (fun _ => True) Tryz.underlying23 (by kernel_rfl) rfl (fun v n y h => ?_) h
  obtain ⟨s0, e0, _, _⟩ := DataW.trod_int Tryz.underlying2 h
  cases e0
  exact ⟨s0, trivial, rfl⟩
theorem openPW {fuel : Nat} {A : Option Addr} {len cap : Nat} {x : DataW H × List MemPlace} (h : DataW.trod enc Tryz.prog w base spare held fuel 22 [.slice A len cap] = some x) :
    ∃ l : List OpM, l.length = len ∧ (∀ y ∈ l, True) ∧ Src w eOp A cap l ∧ len ≤ maxLen ∧ (x.1 = .nil ∧ len = 0 ∨ ∃ el sp, x.1 = .slice el sp ∧ el.length = len) := by
  refine src_structs eOp (fun _ => True) Tryz.underlying22 Tryz.underlying56 (by kernel_rfl) (by kernel_rfl) rfl (fun at_ hf => ?_) h
  obtain ⟨v0, n0, y0, a0, t0⟩ := hf 0 _ rfl
  obtain ⟨v1, n1, y1, a1, t1⟩ := hf 1 _ rfl
  obtain ⟨v2, n2, y2, a2, t2⟩ := hf 2 _ rfl
  obtain ⟨v3, n3, y3, a3, t3⟩ := hf 3 _ rfl
  obtain ⟨s0, e0, _, _⟩ := DataW.trod_int Tryz.underlying3 t0
  obtain ⟨s1, e1, _, _⟩ := DataW.trod_int Tryz.underlying2 t1
  obtain ⟨s2, e2, _, _⟩ := DataW.trod_int Tryz.underlying2 t2
  obtain ⟨s3, e3, _, _⟩ := DataW.trod_int Tryz.underlying2 t3
  cases e0
  cases e1
  cases e2
  cases e3
  refine ⟨⟨s0, s1, s2, s3⟩, trivial, fun j u hu => ?_⟩
  match j, hu with
  | 0, hu => cases hu; exact a0
  | 1, hu => cases hu; exact a1
  | 2, hu => cases hu; exact a2
  | 3, hu => cases hu; exact a3
theorem all_rd {w : World} : ∀ (vs : List Dv), (∀ y ∈ vs, DvG w y) → ∃ ds, RdD w vs ds ∧ ∀ d ∈ ds, TxG d.r ∧ d.r.length ≤ 4398046511000
  | [], _ => ⟨[], ⟨rfl, fun i v d h => (by simp at h)⟩, fun d h => (by cases h)⟩
  | v :: vs, h => by
    obtain ⟨ds, h1, h2⟩ := all_rd vs (fun y hy => h y (List.mem_cons_of_mem _ hy))
    obtain ⟨r, k1, k2, k3, k4⟩ := h v (List.mem_cons_self ..)
    refine ⟨⟨v.p, r⟩ :: ds, ⟨by rw [List.length_cons, List.length_cons, h1.len], fun i v' d' hv hd => ?_⟩, fun d hd => ?_⟩
    · cases i with
      | zero => cases hv; cases hd; exact ⟨rfl, k1, k2⟩
      | succ i => exact h1.at_ i v' d' hv hd
    · rcases List.mem_cons.1 hd with rfl | hd
      · exact ⟨k3, k4⟩
      · exact h2 d hd
/-- A case as it lies in memory. -/
structure CaseM (w : World) (A0 : Option Addr) (c0 : Nat) (ops : List OpM) (A1 : Option Addr) (c1 : Nat) (live : List Int) (A2 : Option Addr) (c2 : Nat) (traps : List Int) (A3 : Option Addr) (c3 : Nat) (vs : List Dv) (ds : List Dth) : Prop where
  s0 : Src w eOp A0 c0 ops
  s1 : Src w eI64 A1 c1 live
  s2 : Src w eI64 A2 c2 traps
  s3 : Src w eDv A3 c3 vs
  rd : RdD w vs ds
  n0 : ops.length ≤ 4398046511000
  n1 : live.length ≤ 17592186043904
  n2 : traps.length ≤ 17592186043904
  n3 : vs.length ≤ 4398046511000
  cc : vs.length ≤ c3
  n4 : ∀ d ∈ ds, TxG d.r ∧ d.r.length ≤ 4398046511000
theorem CaseM.below {w w' : World} {A0 : Option Addr} {c0 : Nat} {ops : List OpM} {A1 : Option Addr} {c1 : Nat} {live : List Int} {A2 : Option Addr} {c2 : Nat} {traps : List Int} {A3 : Option Addr} {c3 : Nat} {vs : List Dv} {ds : List Dth}
    (h : CaseM w A0 c0 ops A1 c1 live A2 c2 traps A3 c3 vs ds) (hb : Below w.heap.size w w') : CaseM w' A0 c0 ops A1 c1 live A2 c2 traps A3 c3 vs ds :=
  ⟨h.s0.below hb, h.s1.below hb, h.s2.below hb, h.s3.below hb, h.rd.below hb, h.n0, h.n1, h.n2, h.n3, h.cc, h.n4⟩
def caseV (A0 : Option Addr) (c0 n0 : Nat) (A1 : Option Addr) (c1 n1 : Nat) (A2 : Option Addr) (c2 n2 : Nat) (A3 : Option Addr) (c3 n3 : Nat) : Value := .agg #[.slice A0 n0 c0, .slice A1 n1 c1, .slice A2 n2 c2, .slice A3 n3 c3]
set_option maxRecDepth 100000 in
theorem openCase {v : Value} {d : DataW H} {p : List MemPlace} {r : Reach} {b0 : Nat} (hv : Value.okWide Tryz.prog w r b0 26 v) (h : DataW.Trod enc Tryz.prog w base spare held 26 v d p) (hwt : ∀ z ∈ d.weights Tryz.prog 26, z ≤ reachBytes) :
    ∃ (A0 : Option Addr) (c0 : Nat) (ops : List OpM) (A1 : Option Addr) (c1 : Nat) (live : List Int) (A2 : Option Addr) (c2 : Nat) (traps : List Int) (A3 : Option Addr) (c3 : Nat) (vs : List Dv) (ds : List Dth),
      v = caseV A0 c0 ops.length A1 c1 live.length A2 c2 traps.length A3 c3 vs.length ∧ CaseM w A0 c0 ops A1 c1 live A2 c2 traps A3 c3 vs ds := by
  obtain ⟨u0, u1, u2, u3, y0, y1, y2, y3, m, rfl, rfl, rfl, t0, t1, t2, t3⟩ := Go.Joins.open_agg4 Tryz.underlying26 (by kernel_rfl) (by kernel_rfl) hv h
  have hw : ∀ (j : Nat) (t : TypeId) (y : DataW H), [22, 23, 23, 24][j]? = some t → [y0.1, y1.1, y2.1, y3.1][j]? = some y → ∀ z ∈ y.weights Tryz.prog t, z ≤ reachBytes := fun j t y ht hy z hz => hwt z (by
    simp only [DataW.weights, Tryz.underlying26]
    exact DataW.weights_mem_each (j := j) ht hy z hz)
  obtain ⟨A0, c0, l0, e0, _, _, s0, b0⟩ := open_field (E := eOp) (Pr := fun _ => True) Tryz.underlying22 (hw 0 _ _ rfl rfl) t0 (fun A len cap h => openPW h)
  obtain ⟨A1, c1, l1, e1, _, _, s1, b1⟩ := open_field (E := eI64) (Pr := fun _ => True) Tryz.underlying23 (hw 1 _ _ rfl rfl) t1 (fun A len cap h => openIW h)
  obtain ⟨A2, c2, l2, e2, _, _, s2, b2⟩ := open_field (E := eI64) (Pr := fun _ => True) Tryz.underlying23 (hw 2 _ _ rfl rfl) t2 (fun A len cap h => openIW h)
  obtain ⟨A3, c3, l3, e3, cc, p3, s3, b3⟩ := open_field (E := eDv) (Pr := DvG w) Tryz.underlying24 (hw 3 _ _ rfl rfl) t3 (fun A len cap h => openDW (hw 3 _ _ rfl rfl) h)
  obtain ⟨ds, hd, h4⟩ := all_rd l3 p3
  subst e0
  subst e1
  subst e2
  subst e3
  rw [bytes_op] at b0
  rw [bytes_i64] at b1 b2
  rw [bytes_dv] at b3
  simp only [reachBytes] at b0 b1 b2 b3
  exact ⟨A0, c0, l0, A1, c1, l1, A2, c2, l2, A3, c3, l3, ds, rfl, s0, s1, s2, s3, hd, by omega, by omega, by omega, by omega, cc, h4⟩
end
end Go.Proofs.YtameidoaenoppaaGreatDoor
