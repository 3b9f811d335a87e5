/- Plain: package timer's heap and the reference's list hold the same entries; no condition. -/
import Derived.Test.YtobgabjoehjpcaaHp
import Derived.Test.YtobgabjoehjpcaaRb
namespace Go.Proofs.Ytobgabjoehjpcaa

structure Sim (l ts : List Ent) (tn : Int) : Prop where
  perm : l.Perm ts
  heap : HeapN l l.length
  srt : ts.Pairwise (fun a b => a.tn < b.tn)
  top : ∀ e ∈ ts, e.tn ≤ tn
  refs : ts.Pairwise (fun a b => a.ref ≠ b.ref)
theorem Sim.nil : Sim [] [] 0 := ⟨List.Perm.refl _, fun k _ h => by simp at h, List.Pairwise.nil, fun e h => by simp at h, List.Pairwise.nil⟩
theorem gt_mem (l : List Ent) (k : Nat) (hk : k < l.length) : gt l k ∈ l := by
  have : gt l k = l[k] := by unfold gt; rw [List.getD_eq_getElem?_getD, List.getElem?_eq_getElem hk]; rfl
  rw [this]; exact List.getElem_mem _
theorem mem_gt {l : List Ent} {e : Ent} (h : e ∈ l) : ∃ k, k < l.length ∧ gt l k = e := by
  obtain ⟨k, hk, he⟩ := List.mem_iff_getElem.1 h
  exact ⟨k, hk, by unfold gt; rw [List.getD_eq_getElem?_getD, List.getElem?_eq_getElem hk]; exact he⟩
theorem ex_ref (l : List Ent) (r : Int) : (∃ j, j < l.length ∧ (gt l j).ref = r) ↔ ∃ e ∈ l, e.ref = r :=
  ⟨fun ⟨j, hj, h⟩ => ⟨_, gt_mem l j hj, h⟩, fun ⟨e, he, h⟩ => by obtain ⟨k, hk, hq⟩ := mem_gt he; exact ⟨k, hk, by rw [hq]; exact h⟩⟩
theorem ex_perm {l ts : List Ent} (h : l.Perm ts) (r : Int) : (∃ j, j < l.length ∧ (gt l j).ref = r) ↔ (∃ j, j < ts.length ∧ (gt ts j).ref = r) := by
  rw [ex_ref, ex_ref]
  exact ⟨fun ⟨e, he, hr⟩ => ⟨e, h.mem_iff.1 he, hr⟩, fun ⟨e, he, hr⟩ => ⟨e, h.mem_iff.2 he, hr⟩⟩
theorem setE_perm {l ts : List Ent} (h : l.Perm ts) (r dl : Int) : setE l r dl = setE ts r dl := by
  unfold setE
  rw [h.length_eq]
  by_cases h1 : r < 1 ∨ 281474976710656 < r ∨ dl < 0 ∨ 1152921504606846976 < dl
  · rw [if_pos h1, if_pos h1]
  · rw [if_neg h1, if_neg h1]
    by_cases h2 : ∃ j, j < ts.length ∧ (gt ts j).ref = r
    · have h3 : ∃ j, j < ts.length ∧ (gt l j).ref = r := by rw [← h.length_eq]; exact (ex_perm h r).2 h2
      rw [if_pos h2, if_pos h3]
    · have h3 : ¬ ∃ j, j < ts.length ∧ (gt l j).ref = r := fun h4 => h2 ((ex_perm h r).1 (by rw [h.length_eq]; exact h4))
      rw [if_neg h2, if_neg h3]
theorem setE_0 {l : List Ent} {r dl : Int} (h : setE l r dl = 0) : (1 ≤ r ∧ r ≤ 281474976710656 ∧ 0 ≤ dl ∧ dl ≤ 1152921504606846976) ∧ (∀ e ∈ l, e.ref ≠ r) ∧ l.length < 256 := by
  unfold setE at h
  split at h
  · cases h
  · rename_i h1
    split at h
    · cases h
    · rename_i h2
      split at h
      · cases h
      · exact ⟨by omega, fun e he hr => h2 ((ex_ref l r).2 ⟨e, he, hr⟩), by omega⟩
theorem Sim.set {l ts : List Ent} {tn : Int} (h : Sim l ts tn) (r dl : Int) (he : setE l r dl = 0) : Sim (setL l tn r dl) (ts ++ [⟨r, dl, tn + 1⟩]) (tn + 1) := by
  obtain ⟨h1, h2⟩ := setL_heap l tn r dl h.heap
  obtain ⟨_, h4, _⟩ := setE_0 he
  refine ⟨h2.trans (h.perm.append_right _), h1, ?_, ?_, ?_⟩
  · rw [List.pairwise_append]
    exact ⟨h.srt, List.pairwise_singleton _ _, fun a ha b hb => by simp at hb; subst hb; have := h.top a ha; show a.tn < tn + 1; omega⟩
  · intro e he
    rcases List.mem_append.1 he with he | he
    · have := h.top e he; omega
    · simp at he; subst he; exact Int.le_refl _
  · rw [List.pairwise_append]
    exact ⟨h.refs, List.pairwise_singleton _ _, fun a ha b hb => by simp at hb; subst hb; exact h4 a (h.perm.mem_iff.2 ha)⟩
/-- The entries' turns tell them apart. -/
theorem tn_inj {ts : List Ent} (h : ts.Pairwise (fun a b => a.tn < b.tn)) {a b : Ent} (ha : a ∈ ts) (hb : b ∈ ts) (e : a.tn = b.tn) : a = b := by
  obtain ⟨i, hi, rfl⟩ := List.mem_iff_getElem.1 ha
  obtain ⟨j, hj, rfl⟩ := List.mem_iff_getElem.1 hb
  rw [List.pairwise_iff_getElem] at h
  rcases Nat.lt_trichotomy i j with c | c | c
  · have := h i j hi hj c; omega
  · subst c; rfl
  · have := h j i hj hi c; omega
theorem ref_inj {ts : List Ent} (h : ts.Pairwise (fun a b => a.ref ≠ b.ref)) {a b : Ent} (ha : a ∈ ts) (hb : b ∈ ts) (e : a.ref = b.ref) : a = b := by
  obtain ⟨i, hi, rfl⟩ := List.mem_iff_getElem.1 ha
  obtain ⟨j, hj, rfl⟩ := List.mem_iff_getElem.1 hb
  rw [List.pairwise_iff_getElem] at h
  rcases Nat.lt_trichotomy i j with c | c | c
  · exact absurd e (h i j hi hj c)
  · subst c; rfl
  · exact absurd e.symm (h j i hj hi c)
theorem nodup_tn {ts : List Ent} (h : ts.Pairwise (fun a b => a.tn < b.tn)) : ts.Nodup := h.imp fun hab e => by rw [e] at hab; omega
theorem dueL_one (l : List Ent) (now : Int) (h : l ≠ [] ∧ (gt l 0).dl ≤ now) : dueL l now = ((gt l 0) :: (dueL (popL l (l.length - 1)) now).1, (dueL (popL l (l.length - 1)) now).2) := by
  conv => lhs; unfold dueL
  rw [dif_pos h]
theorem dueL_no (l : List Ent) (now : Int) (h : ¬ (l ≠ [] ∧ (gt l 0).dl ≤ now)) : dueL l now = ([], l) := by
  conv => lhs; unfold dueL
  rw [dif_neg h]
/-- What is due, and what is left. -/
theorem due_spec (n : Nat) : ∀ (l : List Ent) (now : Int), l.length = n → HeapN l l.length → (l.Pairwise (fun a b => a.tn ≠ b.tn)) →
    ((dueL l now).1 ++ (dueL l now).2).Perm l ∧ (dueL l now).1.Pairwise ltE ∧ (∀ e ∈ (dueL l now).1, e.dl ≤ now) ∧ (∀ e ∈ (dueL l now).2, now < e.dl) ∧ HeapN (dueL l now).2 (dueL l now).2.length := by
  induction n with
  | zero =>
    intro l now hl hh hp
    rw [dueL_no _ _ (fun h => h.1 (List.eq_nil_of_length_eq_zero hl))]
    exact ⟨List.Perm.refl _, List.Pairwise.nil, fun e h => (by cases h), fun e h => (by have h2 : e ∈ l := h; rw [List.eq_nil_of_length_eq_zero hl] at h2; cases h2), hh⟩
  | succ n ih =>
    intro l now hl hh hp
    by_cases hd : l ≠ [] ∧ (gt l 0).dl ≤ now
    · rw [dueL_one _ _ hd]
      obtain ⟨p1, p2⟩ := popL_heap l n hl hh
      have hln : l.length - 1 = n := by omega
      rw [hln]
      have hpl : (popL l n).length = n := popL_len _ _ hl
      have hpw : ((gt l 0) :: popL l n).Pairwise (fun a b => a.tn ≠ b.tn) := (List.Perm.pairwise_iff (fun h e => h e.symm) p2).2 hp
      obtain ⟨q1, q2, q3, q4, q5⟩ := ih (popL l n) now hpl (by rw [hpl]; exact p1) (List.pairwise_cons.1 hpw).2
      refine ⟨?_, ?_, ?_, q4, q5⟩
      · show ((gt l 0) :: ((dueL (popL l n) now).1 ++ (dueL (popL l n) now).2)).Perm l
        exact (List.Perm.cons _ q1).trans p2
      · refine List.pairwise_cons.2 ⟨fun e he => ?_, q2⟩
        have hm : e ∈ popL l n := q1.mem_iff.1 (List.mem_append_left _ he)
        have hne := (List.pairwise_cons.1 hpw).1 e hm
        have hml : e ∈ l := p2.mem_iff.1 (List.mem_cons_of_mem _ hm)
        obtain ⟨k, hk, hq⟩ := mem_gt hml
        have := heap_min hh k hk
        rw [hq] at this
        unfold le' ltE at this
        unfold ltE
        omega
      · intro e he
        rcases List.mem_cons.1 he with rfl | he
        · exact hd.2
        · exact q3 e he
    · rw [dueL_no _ _ hd]
      refine ⟨List.Perm.refl _, List.Pairwise.nil, fun e h => (by cases h), fun e he => ?_, hh⟩
      have hne : l ≠ [] := fun e9 => by rw [e9] at he; cases he
      have h0 : now < (gt l 0).dl := by
        have : ¬ (gt l 0).dl ≤ now := fun h => hd ⟨hne, h⟩
        omega
      obtain ⟨k, hk, rfl⟩ := mem_gt he
      have := heap_min hh k hk
      unfold le' ltE at this
      show now < (gt l k).dl
      omega
theorem Sim.tn {l ts : List Ent} {tn : Int} (h : Sim l ts tn) : l.Pairwise (fun a b => a.tn ≠ b.tn) :=
  (List.Perm.pairwise_iff (fun h e => h e.symm) h.perm).2 (h.srt.imp fun h => by omega)
theorem filter_split {D R l : List Ent} {now : Int} (h : (D ++ R).Perm l) (hD : ∀ e ∈ D, e.dl ≤ now) (hR : ∀ e ∈ R, now < e.dl) :
    D.Perm (l.filter (fun e => decide (e.dl ≤ now))) ∧ R.Perm (l.filter (fun e => !decide (e.dl ≤ now))) := by
  have h1 := h.filter (fun e => decide (e.dl ≤ now))
  have h2 := h.filter (fun e => !decide (e.dl ≤ now))
  rw [List.filter_append] at h1 h2
  have a1 : D.filter (fun e => decide (e.dl ≤ now)) = D := List.filter_eq_self.2 fun e he => by simpa using hD e he
  have a2 : R.filter (fun e => decide (e.dl ≤ now)) = [] := List.filter_eq_nil_iff.2 fun e he => by have := hR e he; simp; omega
  have a3 : D.filter (fun e => !decide (e.dl ≤ now)) = [] := List.filter_eq_nil_iff.2 fun e he => by have := hD e he; simp; omega
  have a4 : R.filter (fun e => !decide (e.dl ≤ now)) = R := List.filter_eq_self.2 fun e he => by have := hR e he; simp; omega
  rw [a1, a2, List.append_nil] at h1
  rw [a3, a4, List.nil_append] at h2
  exact ⟨h1, h2⟩
theorem Sim.due {l ts : List Ent} {tn : Int} (h : Sim l ts tn) (now : Int) :
    (dueL l now).1.Perm (ts.filter (fun e => decide (e.dl ≤ now))) ∧ (dueL l now).1.Pairwise ltE ∧ Sim (dueL l now).2 (ts.filter (fun e => !decide (e.dl ≤ now))) tn := by
  obtain ⟨q1, q2, q3, q4, q5⟩ := due_spec _ l now rfl h.heap h.tn
  obtain ⟨f1, f2⟩ := filter_split (q1.trans h.perm) q3 q4
  exact ⟨f1, q2, f2, q5, h.srt.filter _, fun e he => h.top e (List.mem_filter.1 he).1, h.refs.filter _⟩
theorem ltE_asymm {a b : Ent} (h : ltE a b) (k : ltE b a) : a = b := by unfold ltE at *; omega
/-- There is one order alone. -/
theorem srt_eq {X Y : List Ent} (h : X.Perm Y) (hx : X.Pairwise ltE) (hy : Y.Pairwise ltE) : X = Y := h.eq_of_pairwise (fun _ _ _ _ => ltE_asymm) hx hy
/-- Due in two steps. -/
theorem due_steps (n : Nat) : ∀ (l : List Ent) (a b : Int), l.length = n → a ≤ b → (dueL l a).1 ++ (dueL (dueL l a).2 b).1 = (dueL l b).1 := by
  induction n with
  | zero =>
    intro l a b hl hab
    rw [dueL_no l a (fun h => h.1 (List.eq_nil_of_length_eq_zero hl))]
    rfl
  | succ n ih =>
    intro l a b hl hab
    by_cases hd : l ≠ [] ∧ (gt l 0).dl ≤ a
    · rw [dueL_one _ _ hd, dueL_one l b ⟨hd.1, by omega⟩]
      have := ih (popL l (l.length - 1)) a b (by rw [popL_len _ _ (by omega)]; omega) hab
      simp only [List.cons_append]
      rw [this]
    · rw [dueL_no _ _ hd]
      rfl
end Go.Proofs.Ytobgabjoehjpcaa
