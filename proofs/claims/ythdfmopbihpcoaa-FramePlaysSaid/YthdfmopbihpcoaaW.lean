/- Words put at the places of a stack, one after the other, in plain lists; and one of them in memory. -/
import Derived.Test.YthdfmopbihpcoaaV
namespace Go.Proofs.Ythdfmopbihpcoaa
open Go.RowKit

/-- Where the cells are that are set. -/
def onIdx : Nat → List Cl → List Nat
  | _, [] => []
  | o, c :: cs => if c.on then o :: onIdx (o + 1) cs else onIdx (o + 1) cs
def putW : List Cl → List Int → List Cl
  | [], _ => []
  | c :: cs, ws => if c.on then (match ws with | [] => c :: cs | w :: ws => ⟨w, true⟩ :: putW cs ws) else c :: putW cs ws
def fill (cs : List Cl) (l : List (Nat × Int)) : List Cl := l.foldl (fun cs x => cs.set x.1 ⟨x.2, true⟩) cs
theorem fill_putW (pre cs : List Cl) (ws : List Int) : fill (pre ++ cs) ((onIdx pre.length cs).zip ws) = pre ++ putW cs ws := by
  induction cs generalizing pre ws with
  | nil => simp [fill, onIdx, putW]
  | cons c cs ih =>
    simp only [onIdx, putW]
    split
    · cases ws with
      | nil => simp [fill]
      | cons w ws =>
        have h1 := ih (pre ++ [⟨w, true⟩]) ws
        rw [List.length_append, List.length_singleton] at h1
        simp only [List.zip_cons_cons, fill, List.foldl_cons]
        rw [List.set_append_right _ _ (Nat.le_refl _), Nat.sub_self, List.set_cons_zero]
        simpa [fill] using h1
    · have h1 := ih (pre ++ [c]) ws
      rw [List.length_append, List.length_singleton] at h1
      simpa [fill] using h1
theorem onW_putW (cs : List Cl) (ws : List Int) (h : ws.length = (onW cs).length) : onW (putW cs ws) = ws := by
  induction cs generalizing ws with
  | nil => simp only [onW, List.length_nil, List.length_eq_zero_iff] at h; subst h; rfl
  | cons c cs ih =>
    simp only [onW, putW] at h ⊢
    split
    · rename_i hc
      rw [if_pos hc] at h
      cases ws with
      | nil => simp at h
      | cons w ws =>
        simp only [onW]
        rw [if_pos trivial, ih ws (by simpa using h)]
    · rename_i hc
      rw [if_neg hc] at h
      simp only [onW]
      rw [if_neg hc, ih ws h]
theorem onIdx_len (o : Nat) (cs : List Cl) : (onIdx o cs).length = (onW cs).length := by
  induction cs generalizing o with
  | nil => rfl
  | cons c cs ih => simp only [onIdx, onW]; split <;> simp [ih]
theorem onIdx_append (o : Nat) (a b : List Cl) : onIdx o (a ++ b) = onIdx o a ++ onIdx (o + a.length) b := by
  induction a generalizing o with
  | nil => rfl
  | cons c a ih =>
    simp only [List.cons_append, onIdx, ih, List.length_cons]
    rw [show o + (a.length + 1) = o + 1 + a.length by omega]
    split <;> rfl
theorem onIdx_take (l : List Cl) (j : Nat) (hj : j < l.length) : onIdx 0 (l.take (j + 1)) = onIdx 0 (l.take j) ++ (if l[j].on then [j] else []) := by
  rw [List.take_succ_eq_append_getElem hj, onIdx_append]
  congr 1
  simp only [onIdx, Nat.zero_add, List.length_take, Nat.min_eq_left (Nat.le_of_lt hj)]
/-- Each is a place of a cell that is set. -/
theorem onIdx_on (cs : List Cl) (i : Nat) (h : i ∈ onIdx 0 cs) : ∃ c, cs[i]? = some c ∧ c.on = true := by
  have aux : ∀ (cs : List Cl) (o i : Nat), i ∈ onIdx o cs → o ≤ i ∧ ∃ c, cs[i - o]? = some c ∧ c.on = true := by
    intro cs
    induction cs with
    | nil => intro o i h; simp [onIdx] at h
    | cons c cs ih =>
      intro o i h
      have step : i ∈ onIdx (o + 1) cs → o ≤ i ∧ ∃ c', (c :: cs)[i - o]? = some c' ∧ c'.on = true := fun h => by
        obtain ⟨h1, c', h2, h3⟩ := ih (o + 1) i h
        refine ⟨by omega, c', ?_, h3⟩
        rw [show i - o = (i - (o + 1)) + 1 by omega, List.getElem?_cons_succ]
        exact h2
      simp only [onIdx] at h
      by_cases hc : c.on = true
      · rw [if_pos hc, List.mem_cons] at h
        rcases h with rfl | h
        · exact ⟨Nat.le_refl _, c, by simp, hc⟩
        · exact step h
      · rw [if_neg hc] at h
        exact step h
  have := (aux cs 0 i h).2
  simpa using this

/-! ### in a stack -/
def putFs : List Fr → Nat → Cl → List Fr
  | [], _, _ => []
  | f :: fs, k, c => if k < f.cl.length then ⟨f.rt, f.y.map (·.set k c)⟩ :: fs else f :: putFs fs (k - f.cl.length) c
def StM.put (s : StM) (i : Nat) (c : Cl) : StM := if i < 16 then { s with x := s.x.set i c } else { s with fs := putFs s.fs (i - 16) c }
/-- What of a row of frames stays. -/
def shp (fs : List Fr) : List (Int × Option Nat) := fs.map fun f => (f.rt, f.y.map List.length)
theorem shp_putFs (fs : List Fr) (k : Nat) (c : Cl) : shp (putFs fs k c) = shp fs := by
  induction fs generalizing k with
  | nil => rfl
  | cons f fs ih =>
    simp only [putFs]
    split
    · simp only [shp, List.map_cons]
      congr 2
      cases f.y <;> simp
    · have := ih (k - f.cl.length)
      simp only [shp, List.map_cons] at this ⊢
      rw [this]
theorem allY_cons (f : Fr) (fs : List Fr) : allY (f :: fs) = f.cl ++ allY fs := by simp [allY]
theorem allY_putFs (fs : List Fr) (k : Nat) (c : Cl) : allY (putFs fs k c) = (allY fs).set k c := by
  induction fs generalizing k with
  | nil => rfl
  | cons f fs ih =>
    simp only [putFs]
    split
    · rename_i hk
      rw [allY_cons, allY_cons, List.set_append_left _ _ hk]
      congr 1
      unfold Fr.cl at hk ⊢
      cases h : f.y with
      | none => rw [h] at hk; simp at hk
      | some l => rfl
    · rename_i hk
      rw [allY_cons, allY_cons, ih, List.set_append_right _ _ (by omega)]
theorem cl_len {f g : Fr} (h : f.y.map List.length = g.y.map List.length) : f.cl.length = g.cl.length := by
  unfold Fr.cl
  cases hf : f.y <;> cases hg : g.y <;> rw [hf, hg] at h <;> simp_all
theorem size_shp {f g : Fr} (h : f.y.map List.length = g.y.map List.length) : f.size = g.size := by
  unfold Fr.size
  cases hf : f.y <;> cases hg : g.y <;> rw [hf, hg] at h <;> simp_all
theorem allY_shp {fs gs : List Fr} (h : shp fs = shp gs) : (allY fs).length = (allY gs).length := by
  induction fs generalizing gs with
  | nil => cases gs with | nil => rfl | cons g gs => simp [shp] at h
  | cons f fs ih =>
    cases gs with
    | nil => simp [shp] at h
    | cons g gs =>
      simp only [shp, List.map_cons, List.cons.injEq, Prod.mk.injEq] at h
      rw [allY_cons, allY_cons, List.length_append, List.length_append, cl_len h.1.2, ih h.2]
theorem shp_len {fs gs : List Fr} (h : shp fs = shp gs) : fs.length = gs.length := by simpa [shp] using congrArg List.length h
theorem shp_take {fs gs : List Fr} (h : shp fs = shp gs) (k : Nat) : shp (fs.take k) = shp (gs.take k) := by
  have := congrArg (List.take k) h
  simpa [shp, List.map_take] using this
theorem Cuts.shp {sv : Value} {fs gs : List Fr} {rs : List Rec} (h : Cuts sv fs rs) (e : shp gs = shp fs) : Cuts sv gs rs := by
  refine ⟨by rw [h.1, shp_len e], fun k r g hr hg => ?_⟩
  have hk : k < fs.length := by rw [← shp_len e]; exact (List.getElem?_eq_some_iff.1 hg).1
  obtain ⟨h1, h2, h3, h4⟩ := h.2 k r fs[k] hr (List.getElem?_eq_getElem hk)
  have he : (g.rt, g.y.map List.length) = (fs[k].rt, fs[k].y.map List.length) := by
    have := congrArg (·[k]?) e
    simp only [Ythdfmopbihpcoaa.shp, List.getElem?_map, hg, List.getElem?_eq_getElem hk] at this
    simpa using this
  simp only [Prod.mk.injEq] at he
  refine ⟨by rw [h1, he.1], by rw [h2, size_shp he.2], by rw [h3, cl_len he.2], fun hne => ?_⟩
  obtain ⟨b, hb1, hb2⟩ := h4 (fun h0 => hne (List.eq_nil_of_length_eq_zero (by rw [cl_len he.2, h0]; rfl)))
  exact ⟨b, hb1, by rw [hb2, allY_shp (shp_take e k)]⟩
theorem put_cells (s : StM) (hx : s.x.length = 16) (i : Nat) (c : Cl) : cellsOf (s.put i c) = (cellsOf s).set i c := by
  unfold StM.put cellsOf
  split
  · rw [List.set_append_left _ _ (by omega)]
  · rw [allY_putFs, List.set_append_right _ _ (by omega), hx]
theorem put_x (s : StM) (i : Nat) (c : Cl) : (s.put i c).x.length = s.x.length := by unfold StM.put; split <;> simp
theorem put_shp (s : StM) (i : Nat) (c : Cl) : shp (s.put i c).fs = shp s.fs := by unfold StM.put; split; rfl; exact shp_putFs _ _ _
def fillM (s : StM) (l : List (Nat × Int)) : StM := l.foldl (fun s x => s.put x.1 ⟨x.2, true⟩) s
theorem fillM_cells (s : StM) (hx : s.x.length = 16) (l : List (Nat × Int)) : cellsOf (fillM s l) = fill (cellsOf s) l ∧ (fillM s l).x.length = 16 ∧ shp (fillM s l).fs = shp s.fs := by
  induction l generalizing s with
  | nil => exact ⟨rfl, hx, rfl⟩
  | cons a l ih =>
    obtain ⟨h1, h2, h3⟩ := ih (s.put a.1 ⟨a.2, true⟩) (by rw [put_x, hx])
    refine ⟨?_, h2, h3.trans (put_shp _ _ _)⟩
    rw [put_cells _ hx] at h1
    exact h1
def swapM (s : StM) (ws : List Int) : StM := fillM s ((onIdx 0 (cellsOf s)).zip ws)
theorem swapM_cells (s : StM) (hx : s.x.length = 16) (ws : List Int) : cellsOf (swapM s ws) = putW (cellsOf s) ws := by
  unfold swapM
  rw [(fillM_cells s hx _).1]
  exact fill_putW [] (cellsOf s) ws
theorem fill_on (cs : List Cl) (l : List (Nat × Int)) (i : Nat) (c : Cl) (h : cs[i]? = some c) (hc : c.on = true) : ∃ c', (fill cs l)[i]? = some c' ∧ c'.on = true := by
  induction l generalizing cs c with
  | nil => exact ⟨c, h, hc⟩
  | cons a l ih =>
    have hi := (List.getElem?_eq_some_iff.1 h).1
    by_cases e : a.1 = i
    · exact ih (cs.set a.1 ⟨a.2, true⟩) ⟨a.2, true⟩ (by rw [e]; simp [hi]) rfl
    · exact ih (cs.set a.1 ⟨a.2, true⟩) c (by rw [List.getElem?_set_ne e]; exact h) hc

/-- A word put where the cell is set. -/
theorem IsSt.put {w : World} {p : Nat} {fv sv : Value} {s : StM} {rs : List Rec} {gs : Nat} (h : IsSt w p fv sv s rs) (hg : ∀ g, sv.ownBlock = some g → g = gs) (i b o : Nat) (u : Int) (c : Cl) (hp : (places p gs s)[i]? = some (b, o)) (hc : (cellsOf s)[i]? = some c) (hon : c.on = true) :
    IsSt (w.setCell ⟨b, o, none⟩ (.int .u64 u)) p fv sv (s.put i ⟨u, true⟩) rs ∧ (b = p ∨ sv.ownBlock = some b) := by
  unfold places at hp
  unfold cellsOf at hc
  unfold StM.put
  by_cases hi : i < 16
  · rw [List.getElem?_append_left (by rw [row2_len]; exact hi), row2_get _ _ _ hi] at hp
    rw [List.getElem?_append_left (by rw [h.x16]; exact hi)] at hc
    cases hp
    rw [if_pos hi]
    obtain ⟨hix, hci⟩ := List.getElem?_eq_some_iff.1 hc
    have hl : (eCl.flat s.x).length = 32 := by rw [eCl.flat_length, h.x16]; rfl
    have e1 : (eCl.flat s.x).set (i * 2) (.int .u64 u) = eCl.flat (s.x.set i ⟨u, true⟩) := eCl.flat_set s.x i 0 ⟨u, true⟩ (.int .u64 u) hix (by decide) (by rw [hci]; simp [eCl, hon])
    refine ⟨⟨?_, by simpa using h.x16, h.f.set_ne (h.f.ne h.blk (by decide)) _, h.sl.set_ne (h.sl.ne h.blk (by decide)) _, h.cut⟩, .inl rfl⟩
    rw [blk_set h.blk (i * 2) (.int .u64 u)]
    unfold StC
    congr 2
    rw [List.setIfInBounds_toArray, List.set_append_left _ _ (by omega), e1]
  · rw [List.getElem?_append_right (by rw [row2_len]; omega), row2_len] at hp
    rw [List.getElem?_append_right (by rw [h.x16]; omega), h.x16] at hc
    obtain ⟨hk, hci⟩ := List.getElem?_eq_some_iff.1 hc
    rw [row2_get _ _ _ hk] at hp
    cases hp
    rw [if_neg hi]
    obtain ⟨A, n, hv, _, _, h0, h1⟩ := h.sl.shape
    obtain ⟨g, rfl⟩ : ∃ g, A = some ⟨g, 0, none⟩ := by
      cases A with
      | none => have := (h0 rfl).1; rw [this] at hk; simp at hk
      | some x => obtain ⟨g, rfl⟩ := h1 x rfl; exact ⟨g, rfl⟩
    obtain rfl : g = gs := hg g (by rw [hv]; rfl)
    have ho := h.sl
    rw [hv] at ho
    have hcg := ho.blk.choose_spec
    have npg : p ≠ g := fun e => ho.ne h.blk (by decide) (by rw [e]; rfl)
    refine ⟨⟨blk_set_ne h.blk npg _, h.x16, h.f.set_ne (h.f.ne hcg (by decide)) _, ?_, h.cut.shp (shp_putFs _ _ _)⟩, .inr (by rw [hv]; rfl)⟩
    show Own _ 57 eCl sv (allY (putFs s.fs (i - 16) ⟨u, true⟩))
    rw [allY_putFs, hv]
    exact ho.set rfl (i - 16) 0 ⟨u, true⟩ (.int .u64 u) hk (by decide) (by rw [hci]; simp [eCl, hon])
end Go.Proofs.Ythdfmopbihpcoaa
