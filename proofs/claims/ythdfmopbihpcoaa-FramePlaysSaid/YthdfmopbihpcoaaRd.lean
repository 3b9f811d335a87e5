/- Both stacks side by side, from a bound on; what each call leaves; bounds stand in each statement. -/
import Derived.Test.YthdfmopbihpcoaaRc
namespace Go.Proofs.Ythdfmopbihpcoaa
open Go.RowKit
variable {B : Bd}

def St (B : Bd) (w : World) (p : Nat) (s : StM) : Prop := ∃ fv sv rs, IsSt w p fv sv s rs ∧ ∀ g, FS p fv sv g → B.At w g
def Rf (B : Bd) (w : World) (q : Nat) (s : StM) : Prop := ∃ fv rr, IsRf B w q fv s rr
def SPost (B : Bd) (w : World) (p : Nat) (v : Value) (s' : StM) (e : Ending) (w' : World) : Prop := e = .returned v ∧ St B w' p s' ∧ Chg (Ty B TS w) w w'
/-- What both are held to. -/
structure Inv (s : StM) : Prop where
  n : s.fs.length ≤ 64
  y : ∀ f ∈ s.fs, f.cl.length ≤ 16
  x : s.x.length = 16
theorem allY_le (fs : List Fr) (h : ∀ f ∈ fs, f.cl.length ≤ 16) : (allY fs).length ≤ 16 * fs.length := by
  induction fs with
  | nil => simp [allY]
  | cons f fs ih =>
    rw [allY_cons, List.length_append, List.length_cons]
    have h1 := h f (by simp)
    have h2 := ih (fun g hg => h g (by simp [hg]))
    omega
theorem Inv.all {s : StM} (h : Inv s) : (allY s.fs).length ≤ 1024 := by
  have h1 := allY_le s.fs h.y
  have h2 := h.n
  omega
section
variable {w w' : World} {p q : Nat} {s s' : StM} {v : Value}
theorem St.same (h : St B w p s) (hb : Below w.heap.size w w') : SPost B w p v s (.returned v) w' := by
  obtain ⟨fv, sv, rs, h1, h2⟩ := h
  exact ⟨rfl, ⟨fv, sv, rs, h1.below hb, fun g hg => ⟨(h2 g hg).1, Nat.le_trans (h2 g hg).2 hb.size⟩⟩, Chg.of_below hb _⟩
theorem St.next {fv sv fv' sv' : Value} {rs rs' : List Rec} (h : IsSt w p fv sv s rs) (hB : ∀ g, FS p fv sv g → B.At w g) (h' : IsSt w' p fv' sv' s' rs') (hf : Same w fv fv') (hs : Same w sv sv') (hc : Chg (FS p fv sv) w w') : SPost B w p v s' (.returned v) w' := by
  have hp := hB p (.inl rfl)
  have hl := lt_of_block h.blk
  refine ⟨rfl, ⟨fv', sv', rs', h', fun g hg => ?_⟩, hc.mono fun g _ hg => h.isTy (fun g hg => (hB g hg).1) g hg⟩
  have hcs := hc.size
  rcases hg with rfl | hg | hg
  · exact ⟨hp.1, by omega⟩
  · rcases hf with e | ⟨g', e, e2⟩
    · exact ⟨(hB g (.inr (.inl (e ▸ hg)))).1, by omega⟩
    · rw [e] at hg; cases hg; omega
  · rcases hs with e | ⟨g', e, e2⟩
    · exact ⟨(hB g (.inr (.inr (e ▸ hg)))).1, by omega⟩
    · rw [e] at hg; cases hg; omega
theorem St.ty {L : List Nat} (h : St B w p s) (hL : 60 ∉ L ∧ 54 ∉ L ∧ 57 ∉ L) (hc : Chg (Ty B L w) w w') : St B w' p s := by
  obtain ⟨fv, sv, rs, h1, h2⟩ := h
  exact ⟨fv, sv, rs, h1.ty hL hc, fun g hg => ⟨(h2 g hg).1, Nat.le_trans (h2 g hg).2 hc.size⟩⟩
theorem Rf.ty {L : List Nat} (h : Rf B w q s) (hL : 69 ∉ L ∧ 63 ∉ L ∧ 66 ∉ L) (hc : Chg (Ty B L w) w w') : Rf B w' q s := by
  obtain ⟨fv, rr, h1⟩ := h
  exact ⟨fv, rr, h1.ty hL hc⟩
theorem St.below (h : St B w p s) (hb : Below w.heap.size w w') : St B w' p s := by
  obtain ⟨fv, sv, rs, h1, h2⟩ := h
  exact ⟨fv, sv, rs, h1.below hb, fun g hg => ⟨(h2 g hg).1, Nat.le_trans (h2 g hg).2 hb.size⟩⟩
theorem Rf.below (h : Rf B w q s) (hb : Below w.heap.size w w') : Rf B w' q s := by
  obtain ⟨fv, rr, h1⟩ := h
  exact ⟨fv, rr, h1.below hb⟩
theorem Ty.below {L : List Nat} (h : Chg (Ty B L w) w w') (_ : B.Ok w) : Bel B w w' := ⟨h.mono fun _ _ hg => hg.1⟩
theorem Ty.keep {L : List Nat} {b : Nat} {cs : Array Value} {T : Nat} (h : Chg (Ty B L w) w w') (hb : w.heap[b]? = some (.cells cs T (0, 0))) (hT : T ∉ L) : w'.heap[b]? = some (.cells cs T (0, 0)) := blk_ty hb hT h
theorem St.le (h : St B w p s) : B.Ok w := by
  obtain ⟨fv, sv, rs, h1, h2⟩ := h
  have := h2 p (.inl rfl)
  have := lt_of_block h1.blk
  omega
end
theorem s_set (w : World) (p : Nat) (s : StM) (n u : Int) (h : St B w p s) : Calls Try.prog 24 #[.pointer (some ⟨p, 0, none⟩), .int .i64 n, .int .u64 u] w (SPost B w p (.int .i64 (setXV n)) (setXM s n u)) := by
  by_cases hn : n < 0 ∨ 16 ≤ n
  · refine (setX_no w p n u hn).mono ?_
    rintro e w' ⟨rfl, rfl⟩
    unfold setXV setXM
    rw [if_pos hn, if_pos hn]
    exact h.same (Below.refl _ _)
  · obtain ⟨fv, sv, rs, h1, h2⟩ := h
    obtain ⟨k, rfl⟩ := Int.eq_ofNat_of_zero_le (show 0 ≤ n by omega)
    refine (setX_any w p fv sv s rs k u h1 (by omega)).mono ?_
    rintro e w' ⟨rfl, h3, h4⟩
    unfold setXV setXM
    rw [if_neg hn, if_neg hn, Int.toNat_natCast]
    exact St.next h1 h2 h3 (.inl rfl) (.inl rfl) (h4.mono fun g _ hg => .inl hg)
theorem s_keep (w : World) (p : Nat) (s : StM) (n : Int) (h : St B w p s) : Calls Try.prog 25 #[.pointer (some ⟨p, 0, none⟩), .int .i64 n] w (SPost B w p (.int .i64 (keepV n)) (keepM' s n)) := by
  have h0 := h
  obtain ⟨fv, sv, rs, h1, h2⟩ := h
  refine (keep_any w p fv sv s rs n h1).mono ?_
  rintro e w' ⟨rfl, ⟨hne, rfl⟩ | ⟨he, rs', h3, h4⟩⟩
  · have e : keepM' s n = s := by
      unfold keepV at hne; unfold keepM'
      split at hne
      · rename_i hc; rw [if_pos hc]
      · exact absurd rfl hne
    rw [e]
    exact h0.same (Below.refl _ _)
  · have e : keepM' s n = keepM s n.toNat := by
      unfold keepV at he; unfold keepM'
      split at he
      · cases he
      · rename_i hc; rw [if_neg hc]
    rw [e]
    exact St.next h1 h2 h3 (.inl rfl) (.inl rfl) (h4.mono fun g _ hg => .inl hg)
theorem s_call (w : World) (p : Nat) (s : StM) (n : Int) (h : St B w p s) : Calls Try.prog 13 #[.pointer (some ⟨p, 0, none⟩), .int .i64 n] w (SPost B w p (.int .i64 (callV s n)) (callM s n)) := by
  have h0 := h
  obtain ⟨fv, sv, rs, h1, h2⟩ := h
  unfold callV callM
  by_cases hn : n < 0 ∨ 4096 < n
  · rw [if_pos hn, if_pos hn]
    refine (call_no w p n hn).mono ?_
    rintro e w' ⟨rfl, rfl⟩
    exact h0.same (Below.refl _ _)
  · rw [if_neg hn, if_neg hn]
    by_cases hf : 64 ≤ s.fs.length
    · rw [if_pos hf, if_pos hf]
      refine (call_full w p fv sv s rs h1 n (by omega) (by omega) hf).mono ?_
      rintro e w' ⟨rfl, rfl⟩
      exact h0.same (Below.refl _ _)
    · rw [if_neg hf, if_neg hf]
      refine (call_any w p fv sv s rs h1 n (by omega) (by omega) (by omega)).mono ?_
      rintro e w' ⟨fv', rs', rfl, h3, h4, h5⟩
      exact St.next h1 h2 h3 h4 (.inl rfl) (h5.mono fun g _ hg => by
        rcases hg with hg | hg
        · exact .inl hg
        · exact .inr (.inl hg))
theorem s_ret (w : World) (p : Nat) (s : StM) (h : St B w p s) (hi : Inv s) : Calls Try.prog 18 #[.pointer (some ⟨p, 0, none⟩)] w (SPost B w p (.tuple #[.int .i64 (retV s).1, .int .i64 (retV s).2]) (retM s)) := by
  have h0 := h
  obtain ⟨fv, sv, rs, h1, h2⟩ := h
  refine (ret_any w p fv sv s rs h1 (by have := hi.n; omega)).mono ?_
  rintro e w' ⟨rfl, ⟨hne, hb⟩ | ⟨he, fv', h3, h4, h5⟩⟩
  · unfold retM; rw [if_neg hne]
    exact h0.same hb
  · unfold retM; rw [if_pos he]
    exact St.next h1 h2 h3 (.inl h4) (.inl rfl) (h5.mono fun g _ hg => .inl hg)
theorem s_open (w : World) (p : Nat) (s : StM) (n : Int) (h : St B w p s) (hi : Inv s) : Calls Try.prog 16 #[.pointer (some ⟨p, 0, none⟩), .int .i64 n] w (SPost B w p (.int .i64 (openV s n)) (openM' s n)) := by
  have h0 := h
  obtain ⟨fv, sv, rs, h1, h2⟩ := h
  refine (open_any w p fv sv s rs n h1 (by have := hi.n; omega) (by have := hi.all; omega)).mono ?_
  rintro e w' ⟨rfl, ⟨hne, hb⟩ | ⟨he, sv', rs', h3, h4, h5⟩⟩
  · unfold openM'; rw [if_neg hne]
    exact h0.same hb
  · unfold openM'; rw [if_pos he]
    exact St.next h1 h2 h3 (.inl rfl) h4 h5
theorem s_close (w : World) (p : Nat) (s : StM) (h : St B w p s) (hi : Inv s) : Calls Try.prog 19 #[.pointer (some ⟨p, 0, none⟩)] w (SPost B w p (.int .i64 (closeV s)) (closeM' s)) := by
  have h0 := h
  obtain ⟨fv, sv, rs, h1, h2⟩ := h
  refine (close_any w p fv sv s rs h1 (by have := hi.n; omega) (by have := hi.all; omega)).mono ?_
  rintro e w' ⟨rfl, ⟨hne, hb⟩ | ⟨he, sv', rs', h3, h4, h5⟩⟩
  · unfold closeM'; rw [if_neg hne]
    exact h0.same hb
  · unfold closeM'; rw [if_pos he]
    exact St.next h1 h2 h3 (.inl rfl) (.inl h4) h5
theorem s_setY (w : World) (p : Nat) (s : StM) (n u : Int) (h : St B w p s) (hi : Inv s) : Calls Try.prog 17 #[.pointer (some ⟨p, 0, none⟩), .int .i64 n, .int .u64 u] w (SPost B w p (.int .i64 (setYV s n)) (setYM' s n u)) := by
  have h0 := h
  obtain ⟨fv, sv, rs, h1, h2⟩ := h
  refine (setY_any w p fv sv s rs n u h1 (by have := hi.n; omega)).mono ?_
  rintro e w' ⟨rfl, ⟨hne, hb⟩ | ⟨he, h3, h5⟩⟩
  · unfold setYM'; rw [if_neg hne]
    exact h0.same hb
  · unfold setYM'; rw [if_pos he]
    exact St.next h1 h2 h3 (.inl rfl) (.inl rfl) h5
def swapM' (s : StM) (ws : List Int) : StM := if swapV s ws = 0 then swapM s ws else s
theorem s_swap (w : World) (p : Nat) (s : StM) (ws : List Int) (A : Option Addr) (c : Nat) (h : St B w p s) (hi : Inv s) (hw : Own w 29 eU64 (.slice A ws.length c) ws) : Calls Try.prog 20 #[.pointer (some ⟨p, 0, none⟩), .slice A ws.length c] w (SPost B w p (.int .i64 (swapV s ws)) (swapM' s ws)) := by
  have h0 := h
  obtain ⟨fv, sv, rs, h1, h2⟩ := h
  refine (swap_any w p fv sv s rs ws A c h1 hw (by have := hi.n; omega) (by have := hi.all; omega)).mono ?_
  rintro e w' ⟨rfl, ⟨hne, hb⟩ | ⟨he, h3, h5⟩⟩
  · unfold swapM'; rw [if_neg hne]
    exact h0.same hb
  · unfold swapM'; rw [if_pos he]
    exact St.next h1 h2 h3 (.inl rfl) (.inl rfl) h5
/-! ### the bounds stay -/
section
variable {s : StM}
theorem Inv.new : Inv newSt := ⟨by decide, fun f hf => by simp [newSt] at hf; subst hf; simp [Fr.cl], rfl⟩
theorem Inv.setX (h : Inv s) (n u : Int) : Inv (setXM s n u) := by
  unfold setXM; split
  · exact h
  · exact ⟨h.n, h.y, by simpa using h.x⟩
theorem Inv.keep (h : Inv s) (n : Int) : Inv (keepM' s n) := by
  unfold keepM'; split
  · exact h
  · refine ⟨h.n, h.y, ?_⟩
    have := h.x
    simp [keepM]; omega
theorem Inv.call (h : Inv s) (n : Int) : Inv (callM s n) := by
  unfold callM; split
  · exact h
  · split
    · exact h
    · refine ⟨by simp; omega, fun f hf => ?_, h.x⟩
      rcases List.mem_append.1 hf with hf | hf
      · exact h.y f hf
      · simp at hf; subst hf; simp [Fr.cl]
theorem Inv.ret (h : Inv s) : Inv (retM s) := by
  unfold retM; split
  · exact ⟨by have := h.n; simp; omega, fun f hf => h.y f (List.dropLast_subset _ hf), h.x⟩
  · exact h
theorem Inv.last (h : Inv s) (f' : Fr) (hf' : f'.cl.length ≤ 16) (hne : s.fs ≠ []) : Inv { s with fs := s.fs.dropLast ++ [f'] } := by
  refine ⟨?_, fun f hf => ?_, h.x⟩
  · have h1 := h.n
    have h2 := List.length_pos_iff.2 hne
    simp; omega
  · rcases List.mem_append.1 hf with hf | hf
    · exact h.y f (List.dropLast_subset _ hf)
    · simp at hf; subst hf; exact hf'
theorem ne_last {l : List Fr} {f : Fr} (h : l.getLast? = some f) : l ≠ [] ∧ f ∈ l := ⟨fun e => (by rw [e] at h; cases h), List.mem_of_getLast? h⟩
theorem Inv.open (h : Inv s) (n : Int) : Inv (openM' s n) := by
  unfold openM'; split
  · rename_i hv
    unfold openM
    cases hl : s.fs.getLast? with
    | none => exact h
    | some f =>
      refine h.last _ ?_ (ne_last hl).1
      unfold openV at hv
      split at hv
      · cases hv
      · simp [Fr.cl]; omega
  · exact h
theorem Inv.close (h : Inv s) : Inv (closeM' s) := by
  unfold closeM'; split
  · unfold closeM
    cases hl : s.fs.getLast? with
    | none => exact h
    | some f => exact h.last _ (by simp [Fr.cl]) (ne_last hl).1
  · exact h
theorem Inv.setY (h : Inv s) (n u : Int) : Inv (setYM' s n u) := by
  unfold setYM'; split
  · unfold setYM
    cases hl : s.fs.getLast? with
    | none => exact h
    | some f =>
      refine h.last _ ?_ (ne_last hl).1
      have := h.y f (ne_last hl).2
      unfold Fr.cl at this ⊢
      cases hy : f.y <;> rw [hy] at this <;> simp_all
  · exact h
theorem shp_all {fs gs : List Fr} (h : shp fs = shp gs) (hg : ∀ f ∈ gs, f.cl.length ≤ 16) : ∀ f ∈ fs, f.cl.length ≤ 16 := by
  intro f hf
  obtain ⟨i, hi, rfl⟩ := List.mem_iff_getElem.1 hf
  have hi2 : i < gs.length := by rw [← shp_len h]; exact hi
  have he : (fs[i].rt, fs[i].y.map List.length) = (gs[i].rt, gs[i].y.map List.length) := by
    have := congrArg (·[i]?) h
    simp only [shp, List.getElem?_map, List.getElem?_eq_getElem hi, List.getElem?_eq_getElem hi2] at this
    simpa using this
  simp only [Prod.mk.injEq] at he
  rw [cl_len he.2]
  exact hg _ (List.getElem_mem _)
theorem Inv.swap (h : Inv s) (ws : List Int) : Inv (swapM' s ws) := by
  unfold swapM'; split
  · obtain ⟨_, h2, h3⟩ := fillM_cells s h.x ((onIdx 0 (cellsOf s)).zip ws)
    exact ⟨by show (swapM s ws).fs.length ≤ 64; unfold swapM; rw [shp_len h3]; exact h.n, shp_all h3 h.y, h2⟩
  · exact h
end
end Go.Proofs.Ythdfmopbihpcoaa
