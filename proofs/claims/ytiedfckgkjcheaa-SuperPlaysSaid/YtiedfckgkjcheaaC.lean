/- What without answers, and the state that SuperRuns keeps from call to call; bounds stand in each statement. -/
import Derived.Test.YtiedfckgkjcheaaY
import Derived.Test.YtiedfckgkjcheaaB
namespace Go.Proofs.Ytiedfckgkjcheaa
open Go.RowKit

set_option maxHeartbeats 1000000 in
theorem without_any (w : World) (ns : List ByteArray) (x : ByteArray) (A : Option Addr) (c : Nat) (hs : Src w eStr A c ns) (hn : ns.length ≤ 1000000000) :
    Calls Try.prog 24 #[.slice A ns.length c, .string x] w fun e w' => ∃ v, e = .returned v ∧ Own w' 9 eStr v (withoutL ns x) ∧ Fresh w v ∧ Below w.heap.size w w' := by
  go_enter Try.func24, Try.ntmps24
  go_wp2
  go_loopw [5, 6] (fun v i wr => ∃ k : Nat, k ≤ ns.length ∧ i = .int .i64 k ∧ Own wr 9 eStr v (withoutL (ns.take k) x) ∧ Fresh w v ∧ Below w.heap.size w wr) (fun _ i _ => ns.length - (intOf i).toNat)
  case atStart => exact ⟨0, Nat.zero_le _, rfl, Own.nil _ _ _, Fresh.nil _ _ _, Below.refl _ _⟩
  case round =>
    obtain ⟨k, hk, rfl, hown, hfr, hb⟩ := hrel
    by_cases hlt : k < ns.length
    · cases A with
      | none => have := (hs.none rfl).1; subst this; simp at hlt
      | some ad =>
        have hcell : wr.cell? (ad.add k) = some (.string ns[k]) := by
          have := (hs.below hb).at k 0 hlt (by decide)
          simpa [eStr] using this
        have ht : ns.take (k+1) = ns.take k ++ [ns[k]] := List.take_succ_eq_append_getElem hlt
        have hlk : (withoutL (ns.take k) x).length ≤ k := by unfold withoutL; exact Nat.le_trans (List.length_filter_le _ _) (List.length_take_le _ _)
        have HT : Kp (withoutL (ns.take (k + 1)) x = withoutL (ns.take k) x ++ if beqS ns[k] x then [] else [ns[k]]) := ⟨by
          rw [ht]; unfold withoutL; rw [List.filter_append]; cases h : beqS ns[k] x <;> simp [h]⟩
        clear ht
        obtain ⟨y, hy⟩ : ∃ y, y = ns[k] := ⟨_, rfl⟩
        rw [← hy] at hcell HT
        clear hy
        cases e : (y.toList == x.toList)
        · have e4 : (y.toList != x.toList) = true := by rw [bne, e]; rfl
          have e2 : Kp (beqS y x = false) := ⟨e⟩
          go_wp2_with (at_builtin; refine app1_ev T36 y rfl _ _ rfl hown rfl rfl rfl (by simp) rfl (by omega) (by omega) ?_; intro A' n' c' w1 h0 h1 h2 h3)
          go_roundw
          case rel => exact ⟨k + 1, by omega, by go_num, by rw [HT.out, e2.out]; exact h1, hfr.app hb.size h3, chg_below hb h2 hfr hb.size⟩
          case measure => simp [intOf]; omega
        · have e4 : (y.toList != x.toList) = false := by rw [bne, e]; rfl
          have e2 : Kp (beqS y x = true) := ⟨e⟩
          go_wp2
          go_roundw
          case rel => exact ⟨k + 1, by omega, by go_num, by rw [HT.out, e2.out]; simpa using hown, hfr, hb⟩
          case measure => simp [intOf]; omega
    · have hle : ns.length ≤ k := by omega
      clear hlt
      go_wp2
      go_ret
      exact ⟨_, rfl, by rwa [List.take_of_length_le hle] at hown, hfr, hb⟩

/-- What stands ahead of a call of the script. -/
structure InvR (st : Nat) (it pe : Int) (cs : List CS) (n : Nat) (s : SupM) (runs : List ByteArray) : Prop where
  inv : Inv st it pe cs n s
  rest : s.sd = false → ∀ x, x ∉ runningL s.l
  done : s.ov = true → ∀ x, x ∉ runningL s.l
  rep : Rep runs s.l
/-- What a call of the script has done: its acts, which are yet to be reckoned. -/
structure StepR (st : Nat) (it pe : Int) (cs : List CS) (n : Nat) (s s' : SupM) (runs0 : List ByteArray) (acts : List AM) (gn : Int) : Prop where
  inv : Inv st it pe cs n s'
  rest : s'.sd = false → ∀ x, x ∉ runningL s'.l
  done : s'.ov = true → ∀ x, x ∉ runningL s'.l
  ok : okA runs0 acts
  rep : Rep (foldA runs0 acts) s'.l
  err : gn ≠ 0 → acts = []
  over : s.ov = true → gn = 250 ∧ s'.ov = true
  few : acts.length ≤ 64 ∧ runs0.length ≤ 32
theorem InvR.next {st : Nat} {it pe : Int} {cs : List CS} {n : Nat} {s s' : SupM} {runs0 : List ByteArray} {acts : List AM} {gn : Int} (h : StepR st it pe cs n s s' runs0 acts gn) : InvR st it pe cs n s' (foldA runs0 acts) := ⟨h.inv, h.rest, h.done, h.rep⟩
theorem InvR.few {st : Nat} {it pe : Int} {cs : List CS} {n : Nat} {s : SupM} {runs : List ByteArray} (h : InvR st it pe cs n s runs) (hu : Uniq cs) (hc : cs.length ≤ 32) : runs.length ≤ 32 := by
  rw [h.rep.len (names_nodup hu h.inv.kids)]
  have := runningL_len s.l
  have := h.inv.len
  omega
/-- A call that is refused. -/
theorem step_no {st : Nat} {it pe : Int} {cs : List CS} {n : Nat} {s : SupM} {runs : List ByteArray} (h : InvR st it pe cs n s runs) (hu : Uniq cs) (hc : cs.length ≤ 32) (gn : Int) (hg : s.ov = true → gn = 250) : StepR st it pe cs (n + 1) s s runs [] gn :=
  ⟨h.inv.up (by omega), h.rest, h.done, trivial, h.rep, fun _ => rfl, fun e => ⟨hg e, e⟩, by simp, h.few hu hc⟩
theorem kids_map {cs : List CS} {l : List Ch} (h : l.map kid = cs) (b : Bool) : (l.map (setR b)).map kid = cs := by
  rw [← h, List.map_map]; rfl
theorem step_start {st : Nat} {it pe : Int} {cs : List CS} {n : Nat} {s : SupM} {runs : List ByteArray} (h : InvR st it pe cs n s runs) (hu : Uniq cs) (hc : cs.length ≤ 32) (hd : s.sd = false) (ho : s.ov = false) :
    StepR st it pe cs (n + 1) s { s with sd := true, l := s.l.map (setR true) } runs (s.l.map fun c => ⟨true, c.name⟩) 0 := by
  obtain ⟨h1, h2⟩ := start_runs (names_nodup hu h.inv.kids) (h.rest hd) h.rep
  refine ⟨⟨h.inv.st, h.inv.it, h.inv.pe, kids_map h.inv.kids true, Nat.le_succ_of_le h.inv.ends, h.inv.pos⟩, fun e => (by cases e), fun e => ?_, h1, h2, fun e => absurd rfl e, fun e => ?_, ?_, h.few hu hc⟩
  · exact absurd (show s.ov = true from e) (by rw [ho]; decide)
  · rw [ho] at e; cases e
  · have := h.inv.len
    simp; omega
theorem step_stop {st : Nat} {it pe : Int} {cs : List CS} {n : Nat} {s : SupM} {runs : List ByteArray} (h : InvR st it pe cs n s runs) (hu : Uniq cs) (hc : cs.length ≤ 32) (ho : s.ov = false) :
    StepR st it pe cs (n + 1) s { s with ov := true, l := s.l.map (setR false) } runs (dA s.l (fun _ => true) 0) 0 := by
  obtain ⟨h1, h2⟩ := stop_runs (names_nodup hu h.inv.kids) h.rep
  refine ⟨⟨h.inv.st, h.inv.it, h.inv.pe, kids_map h.inv.kids false, Nat.le_succ_of_le h.inv.ends, h.inv.pos⟩, fun _ => none_run s.l, fun _ => none_run s.l, h1, h2, fun e => absurd rfl e, fun e => ?_, ?_, h.few hu hc⟩
  · rw [ho] at e; cases e
  · have := h.inv.len
    have := dA_len s.l (fun _ => true) 0
    omega
theorem step_exit {st : Nat} {it pe : Int} {cs : List CS} {n : Nat} {s : SupM} {runs : List ByteArray} (h : InvR st it pe cs n s runs) (hu : Uniq cs) (hc : cs.length ≤ 32) (hd : s.sd = true) (ho : s.ov = false) {k : Nat} {c : Ch} (hk : s.l[k]? = some c) (normal : Bool) (tick : Int) (h0 : 0 ≤ tick) :
    StepR st it pe cs (n + 1) s (exitS s k c normal tick).1 (withoutL runs c.name) (exitS s k c normal tick).2 0 := by
  obtain ⟨h1, h2⟩ := exit_runs hk (names_nodup hu h.inv.kids) normal tick h.rep
  refine ⟨h.inv.exit hk normal tick h0, fun e => ?_, fun e => ?_, h1, h2, fun e => absurd rfl e, fun e => ?_, ?_, ?_⟩
  · rw [(exit_rest s k c normal tick).2.2.2.1, hd] at e; cases e
  · rw [(exit_rest s k c normal tick).2.2.2.2.2.2, ho] at e
    by_cases hcalm : calmB c normal = true
    · rw [if_pos hcalm] at e; cases e
    · rw [if_neg hcalm, Bool.or_false] at e
      intro x hx
      obtain ⟨i, d, hd', hr, _⟩ := (mem_run_of _ (fun i d hd => exit_get hk normal tick i d hd) (exit_len normal tick) x).1 hx
      unfold exitC at hr
      rw [if_neg hcalm, if_pos e] at hr
      cases hr
  · rw [ho] at e; cases e
  · have := exit_acts_len s k c normal tick
    have := h.inv.len
    omega
  · exact Nat.le_trans (List.length_filter_le _ _) (h.few hu hc)

/-- A supervisor is not touched by an append to a row of texts of another block. -/
theorem IsSup.keepT {w w' : World} {p : Nat} {lv ev v : Value} {s : SupM} {l : List ByteArray} (h : IsSup w p lv ev s) (ho : Own w 9 eStr v l) (hc : Chg (fun g => v.ownBlock = some g) w w') : IsSup w' p lv ev s :=
  h.frame hc (fun e => ho.ne h.blk (by decide) e) (fun g hg e => by
    obtain ⟨cur, hcur⟩ := h.l.blk' hg
    exact ho.ne hcur (by decide) e) (fun g hg e => by
    obtain ⟨cur, hcur⟩ := h.e.blk' hg
    exact ho.ne hcur (by decide) e)

theorem okA_at (xs : List AM) (r : List ByteArray) (h : okA r xs) (m : Nat) (hm : m < xs.length) : hasL (foldA r (xs.take m)) xs[m].name = !xs[m].start := by
  have e : xs = xs.take m ++ xs.drop m := (List.take_append_drop m xs).symm
  rw [e, okA_append, List.drop_eq_getElem_cons hm] at h
  exact h.2.1
theorem foldA_succ (xs : List AM) (r : List ByteArray) (m : Nat) (hm : m < xs.length) : foldA r (xs.take (m + 1)) = stepA (foldA r (xs.take m)) xs[m] := by
  rw [List.take_succ_eq_append_getElem hm, foldA_append]; rfl
theorem foldA_len (xs : List AM) : ∀ r : List ByteArray, (foldA r xs).length ≤ r.length + xs.length := by
  induction xs with
  | nil => intro r; exact Nat.le_refl _
  | cons a xs ih =>
    intro r
    have h1 := ih (stepA r a)
    have h2 : (stepA r a).length ≤ r.length + 1 := by
      unfold stepA
      split
      · simp
      · exact Nat.le_succ_of_le (List.length_filter_le _ _)
    show (foldA (stepA r a) xs).length ≤ _
    simp only [List.length_cons]
    omega

end Go.Proofs.Ytiedfckgkjcheaa
