/- The plain model of package signal's Spread: rounds over the deaths, bond by bond. -/
import Derived.Test.YtameidoaenoppaaGreatDoorWb
import Derived.Test.YtameidoaenoppaaGreatDoorLPc
namespace Go.Proofs.YtameidoaenoppaaGreatDoor
open Go.RowKit

structure SS where
  ds : List Dth
  ts : List Dth
def otherP (p : Int) (b : Bd) : Int := if b.a = p then b.b else b.a
def aliveB (live : List Int) (ds : List Dth) (q : Int) : Bool := decide (q ∈ live) && !decide (q ∈ pids ds)
def bond1 (live traps : List Int) (d : Dth) (s : SS) (b : Bd) : SS :=
  if aliveB live s.ds (otherP d.p b) = false then s
  else if 0 < b.r then { s with ts := s.ts ++ [⟨otherP d.p b, downM b.r d.p d.r⟩] }
  else if otherP d.p b ∈ traps then { s with ts := s.ts ++ [⟨otherP d.p b, exitM d.p d.r⟩] }
  else if isA d.r normalS = true then s
  else { s with ds := s.ds ++ [⟨otherP d.p b, d.r⟩] }
section
variable {live traps : List Int} {d : Dth} {s : SS} {b : Bd}
theorem bond1_out (h : aliveB live s.ds (otherP d.p b) = false) : bond1 live traps d s b = s := by unfold bond1; rw [if_pos h]
theorem bond1_down (h : aliveB live s.ds (otherP d.p b) = true) (h1 : 0 < b.r) : bond1 live traps d s b = { s with ts := s.ts ++ [⟨otherP d.p b, downM b.r d.p d.r⟩] } := by unfold bond1; rw [if_neg (by rw [h]; decide), if_pos h1]
theorem bond1_exit (h : aliveB live s.ds (otherP d.p b) = true) (h1 : ¬ 0 < b.r) (h2 : otherP d.p b ∈ traps) : bond1 live traps d s b = { s with ts := s.ts ++ [⟨otherP d.p b, exitM d.p d.r⟩] } := by unfold bond1; rw [if_neg (by rw [h]; decide), if_neg h1, if_pos h2]
theorem bond1_normal (h : aliveB live s.ds (otherP d.p b) = true) (h1 : ¬ 0 < b.r) (h2 : otherP d.p b ∉ traps) (h3 : isA d.r normalS = true) : bond1 live traps d s b = s := by unfold bond1; rw [if_neg (by rw [h]; decide), if_neg h1, if_neg h2, if_pos h3]
theorem bond1_dies (h : aliveB live s.ds (otherP d.p b) = true) (h1 : ¬ 0 < b.r) (h2 : otherP d.p b ∉ traps) (h3 : isA d.r normalS = false) : bond1 live traps d s b = { s with ds := s.ds ++ [⟨otherP d.p b, d.r⟩] } := by
  unfold bond1; rw [if_neg (by rw [h]; decide), if_neg h1, if_neg h2, if_neg (by rw [h3]; decide)]
end
/-- What holds of a state all along. -/
structure OkS (live : List Int) (s : SS) : Prop where
  nodup : (pids s.ds).Nodup
  live : ∀ d ∈ s.ds, d.p ∈ live
  right : ∀ d ∈ s.ds, (rightE d.r).1 = 0
theorem OkS.snoc {live : List Int} {s : SS} (h : OkS live s) {q : Int} {r : List Ce} (ha : aliveB live s.ds q = true) (hr : (rightE r).1 = 0) : OkS live { s with ds := s.ds ++ [⟨q, r⟩] } := by
  unfold aliveB at ha
  simp only [Bool.and_eq_true, decide_eq_true_eq, Bool.not_eq_true', decide_eq_false_iff_not] at ha
  refine ⟨?_, fun d hd => ?_, fun d hd => ?_⟩
  · show (pids (s.ds ++ [⟨q, r⟩])).Nodup
    unfold pids
    rw [List.map_append]
    exact nodup_snoc h.nodup ha.2
  · rcases List.mem_append.1 hd with hd | hd
    · exact h.live d hd
    · rw [List.mem_singleton.1 hd]; exact ha.1
  · rcases List.mem_append.1 hd with hd | hd
    · exact h.right d hd
    · rw [List.mem_singleton.1 hd]; exact hr
theorem OkS.bond1 {live traps : List Int} {s : SS} (h : OkS live s) {d : Dth} (hr : (rightE d.r).1 = 0) (b : Bd) : OkS live (bond1 live traps d s b) := by
  unfold Go.Proofs.YtameidoaenoppaaGreatDoor.bond1
  split
  · exact h
  · rename_i ha
    split
    · exact ⟨h.nodup, h.live, h.right⟩
    · split
      · exact ⟨h.nodup, h.live, h.right⟩
      · split
        · exact h
        · exact h.snoc (by simpa using ha) hr
theorem OkS.fold {live traps : List Int} {d : Dth} (hr : (rightE d.r).1 = 0) : ∀ (l : List Bd) (s : SS), OkS live s → OkS live (l.foldl (Go.Proofs.YtameidoaenoppaaGreatDoor.bond1 live traps d) s)
  | [], _, h => h
  | b :: l, _, h => OkS.fold hr l _ (h.bond1 hr b)
/-- Deaths and messages only grow, and by one at most. -/
theorem bond1_grow (live traps : List Int) (d : Dth) (s : SS) (b : Bd) : s.ds <+: (bond1 live traps d s b).ds ∧ s.ts <+: (bond1 live traps d s b).ts ∧ (bond1 live traps d s b).ds.length + (bond1 live traps d s b).ts.length ≤ s.ds.length + s.ts.length + 1 := by
  unfold bond1
  split
  · exact ⟨List.prefix_rfl, List.prefix_rfl, by omega⟩
  · split
    · exact ⟨List.prefix_rfl, List.prefix_append _ _, by simp; omega⟩
    · split
      · exact ⟨List.prefix_rfl, List.prefix_append _ _, by simp; omega⟩
      · split
        · exact ⟨List.prefix_rfl, List.prefix_rfl, by omega⟩
        · exact ⟨List.prefix_append _ _, List.prefix_rfl, by simp; omega⟩
theorem fold_grow (live traps : List Int) (d : Dth) : ∀ (l : List Bd) (s : SS), s.ds <+: (l.foldl (bond1 live traps d) s).ds ∧ s.ts <+: (l.foldl (bond1 live traps d) s).ts ∧ (l.foldl (bond1 live traps d) s).ds.length + (l.foldl (bond1 live traps d) s).ts.length ≤ s.ds.length + s.ts.length + l.length
  | [], _ => ⟨List.prefix_rfl, List.prefix_rfl, by simp⟩
  | b :: l, s => by
    obtain ⟨h1, h2, h3⟩ := bond1_grow live traps d s b
    obtain ⟨k1, k2, k3⟩ := fold_grow live traps d l (bond1 live traps d s b)
    exact ⟨h1.trans k1, h2.trans k2, by simp only [List.foldl_cons, List.length_cons]; omega⟩
theorem nodup_pids {l : List Int} (N : Nat) (h : l.Nodup) (hp : ∀ y ∈ l, 1 ≤ y ∧ y ≤ N) : l.length ≤ N := by
  have := nodup_len (m := (List.range N).map (fun i : Nat => (Int.ofNat i + 1))) h (fun y hy => by
    obtain ⟨h1, h2⟩ := hp y hy
    exact List.mem_map.2 ⟨(y - 1).toNat, List.mem_range.2 (by omega), by show ((y - 1).toNat : Int) + 1 = y; omega⟩)
  simpa using this
theorem OkS.len {live : List Int} {s : SS} (h : OkS live s) (hl : badP live = false) : s.ds.length ≤ 1099511627776 := by
  have := nodup_pids (l := pids s.ds) 1099511627776 h.nodup (fun y hy => by
    obtain ⟨d, hd, rfl⟩ := List.mem_map.1 hy
    have h1 := h.live d hd
    unfold badP at hl
    rw [List.any_eq_false] at hl
    have h2 := hl _ h1
    simp only [Bool.not_eq_true', decide_eq_false_iff_not, Classical.not_not] at h2
    exact h2)
  unfold pids at this
  rwa [List.length_map] at this
abbrev St := SS × List NB
def rnd (live traps : List Int) (i : Nat) (st : St) : St := match st.1.ds[i]? with
  | none => st
  | some d => ((told d.p (sn st.2)).foldl (bond1 live traps d) st.1, leftN d.p st.2)
def rnds (live traps : List Int) : Nat → St → St
  | 0, st => st
  | k + 1, st => rnd live traps k (rnds live traps k st)
theorem rnd_some {live traps : List Int} {i : Nat} {st : St} {d : Dth} (h : st.1.ds[i]? = some d) : rnd live traps i st = ((told d.p (sn st.2)).foldl (bond1 live traps d) st.1, leftN d.p st.2) := by unfold rnd; rw [h]
theorem rnds_stop {live traps : List Int} {st : St} {i : Nat} (h : (rnds live traps i st).1.ds.length ≤ i) : ∀ j, i ≤ j → rnds live traps j st = rnds live traps i st := by
  intro j hj
  induction j with
  | zero => rw [Nat.le_zero.1 hj]
  | succ j ih =>
    rcases Nat.lt_or_ge j i with h1 | h1
    · rw [show i = j + 1 by omega]
    · have e := ih h1
      show rnd live traps j (rnds live traps j st) = _
      rw [e]
      unfold rnd
      rw [List.getElem?_eq_none (by omega)]
/-- All that comes of it. -/
def sprd (live traps : List Int) (ds : List Dth) (ns : List NB) : St := rnds live traps live.length (⟨ds, []⟩, ns)
theorem told_left (pid : Int) (ns : List NB) : (told pid (sn ns)).length + (leftN pid ns).length ≤ ns.length := by
  induction ns with
  | nil => simp [told, leftN]
  | cons p ns ih =>
    have e1 : told pid (sn (p :: ns)) = (if (isOf pid p.2 && tells pid p.2) = true then [p.2] else []) ++ told pid (sn ns) := by
      unfold told sn
      rw [List.map_cons, List.filter_cons]
      split <;> rfl
    have e2 : leftN pid (p :: ns) = (if (!isOf pid p.2) = true then [p] else []) ++ leftN pid ns := by
      unfold leftN
      rw [List.filter_cons]
      split <;> rfl
    rw [e1, e2, List.length_append, List.length_append, List.length_cons]
    cases isOf pid p.2
    · simp only [Bool.false_and, Bool.false_eq_true, if_false, Bool.not_false, if_true, List.length_nil, List.length_cons]; omega
    · have : (if (true && tells pid p.2) = true then [p.2] else []).length ≤ 1 := by split <;> simp
      simp only [Bool.not_true, Bool.false_eq_true, if_false, List.length_nil]; omega
structure OkR (live : List Int) (n : Nat) (st : St) (last : Int) : Prop where
  s : OkS live st.1
  g : GOk st.2 last
  len : st.1.ds.length + st.1.ts.length + st.2.length ≤ n
theorem OkR.rnd {live traps : List Int} {n : Nat} {st : St} {last : Int} (h : OkR live n st last) (i : Nat) : OkR live n (rnd live traps i st) last := by
  unfold Go.Proofs.YtameidoaenoppaaGreatDoor.rnd
  split
  · exact h
  · rename_i d hd
    have hr := h.s.right d (List.mem_of_getElem? hd)
    obtain ⟨h1, h2, h3⟩ := fold_grow live traps d (told d.p (sn st.2)) st.1
    have h4 := told_left d.p st.2
    have h5 := h.len
    exact ⟨h.s.fold hr _, h.g.sub List.filter_sublist, by show (List.foldl (bond1 live traps d) st.1 (told d.p (sn st.2))).ds.length + (List.foldl (bond1 live traps d) st.1 (told d.p (sn st.2))).ts.length + (leftN d.p st.2).length ≤ n; omega⟩
theorem OkR.rnds {live traps : List Int} {n : Nat} {st : St} {last : Int} (h : OkR live n st last) : ∀ i, OkR live n (Go.Proofs.YtameidoaenoppaaGreatDoor.rnds live traps i st) last
  | 0 => h
  | i + 1 => (OkR.rnds h i).rnd i
theorem OkS.le {live : List Int} {s : SS} (h : OkS live s) : s.ds.length ≤ live.length := by
  have := nodup_len (l := pids s.ds) (m := live) h.nodup (fun y hy => by
    obtain ⟨d, hd, rfl⟩ := List.mem_map.1 hy
    exact h.live d hd)
  unfold pids at this
  rwa [List.length_map] at this
/-- Where a walk stops, all is done. -/
theorem sprd_at {live traps : List Int} {n : Nat} {ds : List Dth} {ns : List NB} {last : Int} (h : OkR live n (⟨ds, []⟩, ns) last) {i : Nat} (hi : i = (rnds live traps i (⟨ds, []⟩, ns)).1.ds.length) : rnds live traps i (⟨ds, []⟩, ns) = sprd live traps ds ns := by
  unfold sprd
  have := (h.rnds (traps := traps) i).s.le
  exact (rnds_stop (Nat.le_of_eq hi.symm) live.length (by omega)).symm
end Go.Proofs.YtameidoaenoppaaGreatDoor
