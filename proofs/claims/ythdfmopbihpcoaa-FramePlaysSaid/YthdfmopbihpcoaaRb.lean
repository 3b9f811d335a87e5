/- What New, Get, Set, Keep, Call and Return of parleyref21 answer; bounds stand in each statement. -/
import Derived.Test.YthdfmopbihpcoaaRa
namespace Go.Proofs.Ythdfmopbihpcoaa
open Go.RowKit
variable {B : Bd}

def setXV (n : Int) : Int := if n < 0 ∨ 16 ≤ n then 1 else 0
def setXM (s : StM) (n u : Int) : StM := if n < 0 ∨ 16 ≤ n then s else { s with x := s.x.set n.toNat ⟨u, true⟩ }
def keepM' (s : StM) (n : Int) : StM := if n < 0 ∨ 16 < n then s else keepM s n.toNat
def callV (s : StM) (n : Int) : Int := if n < 0 ∨ 4096 < n then 1 else if 64 ≤ s.fs.length then 210 else 0
def callM (s : StM) (n : Int) : StM := if n < 0 ∨ 4096 < n then s else if 64 ≤ s.fs.length then s else { s with fs := s.fs ++ [⟨n, none⟩] }
def retM (s : StM) : StM := if (retV s).2 = 0 then { s with fs := s.fs.dropLast } else s
/-- What of the reference is left behind a call. -/
def RPost (B : Bd) (w : World) (q : Nat) (v : Value) (s' : StM) (e : Ending) (w' : World) : Prop := e = .returned v ∧ (∃ fv' rr', IsRf B w' q fv' s' rr') ∧ Chg (Ty B TR w) w w'
theorem RPost.same {w w' : World} {q : Nat} {v : Value} {s : StM} {fv : Value} {rr : List RR} (h : IsRf B w q fv s rr) (hb : Below w.heap.size w w') : RPost B w q v s (.returned v) w' := ⟨rfl, ⟨fv, rr, h.below hb⟩, Chg.of_below hb _⟩
set_option maxHeartbeats 1000000 in
theorem rnew_any (w : World) (hB : B.Ok w) : Calls Try.prog 8 #[] w fun e w' => ∃ q fv rr, w.heap.size ≤ q ∧ e = .returned (.pointer (some ⟨q, 0, none⟩)) ∧ IsRf B w' q fv newSt rr ∧ Below w.heap.size w w' := by
  go_enter Try.func8, Try.ntmps8
  go_wp2
  go_ret
  have hb : Below w.heap.size w ((w.alloc (.cells #[.int .i64 (-1), .bool false, .slice none 0 0] 63)).alloc (.cells (StR newSt.x (.slice (some ⟨w.heap.size, 0, none⟩) 1 1)) 69)) := ((Below.refl _ _).alloc (Nat.le_refl _) _).alloc (by simp) _
  refine ⟨w.heap.size + 1, .slice (some ⟨w.heap.size, 0, none⟩) 1 1, [⟨-1, false, none, 0, 0⟩], by omega, rfl, ⟨?_, rfl, ?_, rfl, ?_, ⟨by omega, Nat.le_trans hB.2 hb.size⟩, fun g hg => (by cases hg; show B.In w.heap.size; omega), ?_, ?_⟩, hb⟩
  · have := blk_new (w.alloc (.cells #[.int .i64 (-1), .bool false, .slice none 0 0] 63)) (.cells (StR newSt.x (.slice (some ⟨w.heap.size, 0, none⟩) 1 1)) 69)
    rw [show (w.alloc (.cells #[.int .i64 (-1), .bool false, .slice none 0 0] 63)).heap.size = w.heap.size + 1 from by simp] at this
    exact this
  · exact own_lit (blk_alloc (blk_new w _) _) rfl rfl (by decide)
  · intro k r f hr hf
    match k, hr, hf with
    | 0, hr, hf => cases hr; cases hf; exact ⟨rfl, rfl, Own.nil _ _ _⟩
  · intro k r g hr hg
    match k, hr with
    | 0, hr => cases hr; cases hg
  · intro i j a b g ha hb hg _
    match i, ha with
    | 0, ha => cases ha; cases hg
set_option maxHeartbeats 1000000 in
theorem rget_any (w : World) (q : Nat) (fv : Value) (s : StM) (rr : List RR) (n : Int) (hs : IsRf B w q fv s rr) :
    Calls Try.prog 36 #[.pointer (some ⟨q, 0, none⟩), .int .i64 n] w fun e w' => e = .returned (.tuple #[.int .u64 (getX s n).1, .bool (getX s n).2]) ∧ Below w.heap.size w w' := by
  by_cases h1 : n < 0
  · have e : Kp (getX s n = (0, false)) := ⟨by unfold getX; rw [if_pos (.inl h1)]⟩
    go_enter Try.func36, Try.ntmps36
    go_wp2
    go_ret2
    exact ⟨by rw [e.out]; rfl, Below.refl _ _⟩
  have h1d : decide (n < 0) = false := by simpa using h1
  by_cases h2 : 16 ≤ n
  · have e : Kp (getX s n = (0, false)) := ⟨by unfold getX; rw [if_pos (.inr h2)]⟩
    go_enter Try.func36, Try.ntmps36
    go_wp2
    go_ret2
    exact ⟨by rw [e.out]; rfl, Below.refl _ _⟩
  obtain ⟨k, rfl⟩ := Int.eq_ofNat_of_zero_le (show 0 ≤ n by omega)
  have h2d : decide (16 ≤ (k : Int)) = false := by simpa using h2
  have hk : k < s.x.length := by have := hs.x16; omega
  have hx : s.x[k]? = some s.x[k] := List.getElem?_eq_getElem hk
  obtain ⟨q0, q1⟩ := hs.cx k _ hx
  have e : Kp (getX s k = (if s.x[k].on then s.x[k].w else 0, s.x[k].on)) := ⟨by
    unfold getX
    rw [if_neg (by omega), Int.toNat_natCast, hx]
    cases h : s.x[k].on <;> simp [h]⟩
  obtain ⟨c, hc⟩ : ∃ c, c = s.x[k] := ⟨_, rfl⟩
  rw [← hc] at q0 q1 e
  have k0 : (0 : Int) ≤ (k : Int) := by omega
  have k1 : (k : Int) < 16 := by have := hs.x16; omega
  clear hc hx h1 h2
  obtain ⟨cw, on⟩ := c
  cases on
  · go_enter Try.func36, Try.ntmps36
    go_wp2
    go_ret2
    exact ⟨by rw [e.out]; rfl, Below.refl _ _⟩
  · go_enter Try.func36, Try.ntmps36
    go_wp2
    go_ret2
    exact ⟨by rw [e.out]; rfl, Below.refl _ _⟩
section
variable {w w' : World} {q : Nat} {fv : Value} {s : StM} {rr : List RR}
/-- The registers are written anew. -/
theorem IsRf.putX (h : IsRf B w q fv s rr) {xs : List Cl} (hx : xs.length = 16) (hb : w'.heap[q]? = some (.cells (StR xs fv) 69 (0, 0))) (hc : Chg (fun g => g = q) w w') : IsRf B w' q fv { s with x := xs } rr :=
  ⟨hb, hx, h.f.frame hc (fun g hg e => h.f.ne h.blk (by decide) (by rw [← e]; exact hg)), h.len, fun k r f hr hf => by
    obtain ⟨h1, h2, h3⟩ := h.each k r f hr hf
    exact ⟨h1, h2, h3.frame hc fun g hg e => h3.ne h.blk (by decide) (by rw [← e]; exact hg)⟩, ⟨h.hq.1, Nat.le_trans h.hq.2 hc.size⟩, h.hf, h.hr, h.sep⟩
theorem IsRf.setX (h : IsRf B w q fv s rr) (k : Nat) (hk : k < 16) (c : Cl) :
    IsRf B ((w.setCell ⟨q, k * 2, none⟩ (.bool c.on)).setCell ⟨q, k * 2 + 1, none⟩ (.int .u64 c.w)) q fv { s with x := s.x.set k c } rr := by
  have hx := h.x16
  have e1 : (eRC.flat s.x).set (k * 2) (.bool c.on) = eRC.flat (s.x.set k ⟨(s.x[k]'(by omega)).w, c.on⟩) :=
    eRC.flat_set s.x k 0 ⟨(s.x[k]'(by omega)).w, c.on⟩ (.bool c.on) (by omega) (by decide) rfl
  have e2 : (eRC.flat (s.x.set k ⟨(s.x[k]'(by omega)).w, c.on⟩)).set (k * 2 + 1) (.int .u64 c.w) = eRC.flat (s.x.set k c) := by
    have := eRC.flat_set (s.x.set k ⟨(s.x[k]'(by omega)).w, c.on⟩) k 1 c (.int .u64 c.w) (by simp; omega) (by decide) (by simp [eRC])
    rw [List.set_set] at this
    exact this
  have hl : (eRC.flat s.x).length = 32 := by rw [eRC.flat_length, hx]; rfl
  have hl2 : (eRC.flat (s.x.set k ⟨(s.x[k]'(by omega)).w, c.on⟩)).length = 32 := by rw [eRC.flat_length, List.length_set, hx]; rfl
  have b1 := blk_set h.blk (k * 2) (.bool c.on)
  have b2 := blk_set b1 (k * 2 + 1) (.int .u64 c.w)
  refine h.putX (by simpa using hx) ?_ (((Chg.refl (fun g => g = q) w).set (p := ⟨q, k * 2, none⟩) (.inl rfl) _).set (p := ⟨q, k * 2 + 1, none⟩) (.inl rfl) _)
  rw [b2]
  unfold StR
  congr 2
  rw [List.setIfInBounds_toArray, List.setIfInBounds_toArray, List.set_append_left _ _ (by omega), e1, List.set_append_left _ _ (by omega), e2]
theorem IsRf.isTy (h : IsRf B w q fv s rr) : Ty B TR w q := ⟨h.hq.1, _, _, h.blk, by decide⟩
theorem chgQ (h : IsRf B w q fv s rr) (hc : Chg (fun g => g = q) w w') : Chg (Ty B TR w) w w' := hc.mono fun _ _ e => by rw [e]; exact h.isTy
end
set_option maxHeartbeats 1000000 in
theorem rset_any (w : World) (q : Nat) (fv : Value) (s : StM) (rr : List RR) (n u : Int) (hs : IsRf B w q fv s rr) :
    Calls Try.prog 28 #[.pointer (some ⟨q, 0, none⟩), .int .i64 n, .int .u64 u] w (RPost B w q (.int .i64 (setXV n)) (setXM s n u)) := by
  by_cases h1 : n < 0
  · have e : Kp (setXV n = 1 ∧ setXM s n u = s) := ⟨by unfold setXV setXM; rw [if_pos (.inl h1), if_pos (.inl h1)]; exact ⟨rfl, rfl⟩⟩
    go_enter Try.func28, Try.ntmps28
    go_wp2
    go_ret
    rw [e.out.1, e.out.2]
    exact RPost.same hs (Below.refl _ _)
  have h1d : decide (n < 0) = false := by simpa using h1
  by_cases h2 : 16 ≤ n
  · have e : Kp (setXV n = 1 ∧ setXM s n u = s) := ⟨by unfold setXV setXM; rw [if_pos (.inr h2), if_pos (.inr h2)]; exact ⟨rfl, rfl⟩⟩
    go_enter Try.func28, Try.ntmps28
    go_wp2
    go_ret
    rw [e.out.1, e.out.2]
    exact RPost.same hs (Below.refl _ _)
  obtain ⟨k, rfl⟩ := Int.eq_ofNat_of_zero_le (show 0 ≤ n by omega)
  have e : Kp (setXV k = 0 ∧ setXM s k u = { s with x := s.x.set k ⟨u, true⟩ }) := ⟨by unfold setXV setXM; rw [if_neg (by omega), if_neg (by omega)]; exact ⟨rfl, rfl⟩⟩
  have h2d : decide (16 ≤ (k : Int)) = false := by simpa using h2
  have hx : s.x[k]? = some (s.x[k]'(by have := hs.x16; omega)) := List.getElem?_eq_getElem _
  obtain ⟨q0, q1⟩ := hs.cx k _ hx
  have f0 : w.frozen? ⟨q, k * 2, none⟩ = false := hs.fz _
  have f1 : w.frozen? ⟨q, k * 2 + 1, none⟩ = false := hs.fz _
  have k0 : (0 : Int) ≤ (k : Int) := by omega
  have k1 : (k : Int) < 16 := by omega
  have hpl := lt_of_block hs.blk
  clear hx
  go_enter Try.func28, Try.ntmps28
  go_wp2
  go_ret
  rw [e.out.1, e.out.2]
  have h3 := hs.setX k (by omega) ⟨u, true⟩
  exact ⟨rfl, ⟨_, _, h3⟩, chgQ hs (((Chg.refl (fun g => g = q) w).set (p := ⟨q, k * 2, none⟩) (.inl rfl) _).set (p := ⟨q, k * 2 + 1, none⟩) (.inl rfl) _)⟩
def zs (xs : List Cl) (k : Nat) : Nat → List Cl
  | 0 => xs
  | d + 1 => (zs xs k d).set (k + d) zeroCl
theorem zs_len (xs : List Cl) (k d : Nat) : (zs xs k d).length = xs.length := by
  induction d with
  | zero => rfl
  | succ d ih => simp [zs, ih]
theorem zs_get (xs : List Cl) (k d i : Nat) : (zs xs k d)[i]? = if k ≤ i ∧ i < k + d ∧ i < xs.length then some zeroCl else xs[i]? := by
  induction d with
  | zero => rw [if_neg (by omega)]; rfl
  | succ d ih =>
    simp only [zs]
    rw [List.getElem?_set, zs_len]
    by_cases e : k + d = i
    · subst e
      rw [if_pos rfl]
      by_cases h : k + d < xs.length
      · rw [if_pos h, if_pos ⟨by omega, by omega, h⟩]
      · rw [if_neg h, if_neg (fun h2 => h h2.2.2), List.getElem?_eq_none (by omega)]
    · rw [if_neg e, ih]
      by_cases h : k ≤ i ∧ i < k + d ∧ i < xs.length
      · rw [if_pos h, if_pos ⟨h.1, by omega, h.2.2⟩]
      · rw [if_neg h, if_neg (by omega)]
theorem zs_all (xs : List Cl) (k : Nat) (hx : xs.length = 16) (hk : k ≤ 16) : zs xs k (16 - k) = xs.take k ++ List.replicate (16 - k) zeroCl := by
  apply List.ext_getElem?
  intro i
  rw [zs_get]
  by_cases h : i < k
  · rw [if_neg (by omega), List.getElem?_append_left (by rw [List.length_take]; omega), List.getElem?_take_of_lt h]
  · rw [List.getElem?_append_right (by rw [List.length_take]; omega), List.length_take, List.getElem?_replicate]
    by_cases h2 : i < 16
    · rw [if_pos (by omega), if_pos (by omega)]
    · rw [if_neg (by omega), if_neg (by omega), List.getElem?_eq_none (by omega)]
set_option maxHeartbeats 1000000 in
theorem rkeep_any (w : World) (q : Nat) (fv : Value) (s : StM) (rr : List RR) (n : Int) (hs : IsRf B w q fv s rr) :
    Calls Try.prog 29 #[.pointer (some ⟨q, 0, none⟩), .int .i64 n] w (RPost B w q (.int .i64 (keepV n)) (keepM' s n)) := by
  by_cases h1 : n < 0
  · have e : Kp (keepV n = 1 ∧ keepM' s n = s) := ⟨by unfold keepV keepM'; rw [if_pos (.inl h1), if_pos (.inl h1)]; exact ⟨rfl, rfl⟩⟩
    go_enter Try.func29, Try.ntmps29
    go_wp2
    go_ret
    rw [e.out.1, e.out.2]
    exact RPost.same hs (Below.refl _ _)
  have h1d : decide (n < 0) = false := by simpa using h1
  by_cases h2 : 16 < n
  · have e : Kp (keepV n = 1 ∧ keepM' s n = s) := ⟨by unfold keepV keepM'; rw [if_pos (.inr h2), if_pos (.inr h2)]; exact ⟨rfl, rfl⟩⟩
    go_enter Try.func29, Try.ntmps29
    go_wp2
    go_ret
    rw [e.out.1, e.out.2]
    exact RPost.same hs (Below.refl _ _)
  obtain ⟨k, rfl⟩ := Int.eq_ofNat_of_zero_le (show 0 ≤ n by omega)
  have e : Kp (keepV k = 0 ∧ keepM' s k = { s with x := s.x.take k ++ List.replicate (16 - k) zeroCl }) := ⟨by unfold keepV keepM'; rw [if_neg (by omega), if_neg (by omega)]; exact ⟨rfl, rfl⟩⟩
  have h2d : decide (16 < (k : Int)) = false := by simpa using h2
  have hk : k ≤ 16 := by omega
  have HS := Kp.mk hs
  clear hs h1 h2
  go_enter Try.func29, Try.ntmps29
  go_wp2
  go_loopw [5] (fun i wr => ∃ (d : Nat), k + d ≤ 16 ∧ i = .int .i64 ((k : Int) + (d : Int)) ∧ Kp (IsRf B wr q fv { s with x := zs s.x k d } rr) ∧ Kp (Chg (fun g => g = q) w wr)) (fun i _ => 16 - (intOf i).toNat)
  case atStart => exact ⟨0, by omega, by simp, HS, ⟨Chg.refl _ _⟩⟩
  case round =>
    obtain ⟨d, hd, rfl, hI, hC⟩ := hrel
    by_cases hlt : k + d < 16
    · obtain ⟨c0, hx⟩ : ∃ c0, (zs s.x k d)[k + d]? = some c0 := ⟨_, List.getElem?_eq_getElem (by rw [zs_len, HS.out.x16]; omega)⟩
      obtain ⟨q0, q1⟩ := hI.out.cx (k + d) _ hx
      have f0 : wr.frozen? ⟨q, (k + d) * 2, none⟩ = false := hI.out.fz _
      have f1 : wr.frozen? ⟨q, (k + d) * 2 + 1, none⟩ = false := hI.out.fz _
      obtain ⟨j, hj⟩ : ∃ j, j = k + d := ⟨_, rfl⟩
      have hji : (k : Int) + (d : Int) = (j : Int) := by omega
      rw [← hj] at q0 q1 f0 f1
      rw [hji]
      have j0 : (0 : Int) ≤ (j : Int) := by omega
      have j1 : (j : Int) < 16 := by omega
      have hjd : decide ((j : Int) < 16) = true := by simpa using j1
      have hpl := lt_of_block hI.out.blk
      have h3 := hI.out.setX (k + d) (by omega) zeroCl
      rw [← hj] at h3
      have H3 : Kp (IsRf B ((wr.setCell ⟨q, j * 2, none⟩ (.bool false)).setCell ⟨q, j * 2 + 1, none⟩ (.int .u64 0)) q fv { s with x := zs s.x k (d + 1) } rr) := ⟨by simp only [zs]; rw [← hj]; exact h3⟩
      have HJ := Kp.mk hj
      have HJI := Kp.mk hji
      clear hx hj h3 hji
      go_wp2
      go_roundw
      case rel => exact ⟨d + 1, by omega, by rw [← HJI.out]; go_num, H3, ⟨(hC.out.set (p := ⟨q, j * 2, none⟩) (.inl rfl) _).set (p := ⟨q, j * 2 + 1, none⟩) (.inl rfl) _⟩⟩
      case measure => simp [intOf]; omega
    · have hjd : decide ((k : Int) + (d : Int) < 16) = false := by simp; omega
      have hjf : ¬ ((k : Int) + (d : Int) < 16) := by omega
      go_wp2
      go_ret
      rw [e.out.1, e.out.2]
      have h5 := hI.out
      rw [show d = 16 - k by omega, zs_all _ _ HS.out.x16 hk] at h5
      exact ⟨rfl, ⟨_, _, h5⟩, chgQ HS.out hC.out⟩
theorem IsRf.snoc {w w1 : World} {q : Nat} {fv fv' : Value} {s : StM} {rr : List RR} (n : Int) (h : IsRf B w q fv s rr) (hc : Chg (fun g => fv.ownBlock = some g) w w1) (hB : ∀ g, fv'.ownBlock = some g → B.In g) (hf : Own w1 63 eRR fv' (rr ++ [⟨n, false, none, 0, 0⟩])) : IsRf B (w1.setCell ⟨q, 32, none⟩ fv') q fv' { s with fs := s.fs ++ [⟨n, none⟩] } (rr ++ [⟨n, false, none, 0, 0⟩]) := by
  have hl : (eRC.flat s.x).length = 32 := by rw [eRC.flat_length, h.x16]; rfl
  have B1 := hc.at h.blk (h.f.ne h.blk (by decide))
  have aux : ∀ (g i : Nat) (a : RR), (rr ++ [(⟨n, false, none, 0, 0⟩ : RR)])[i]? = some a → a.v.ownBlock = some g → rr[i]? = some a := by
    intro g i a ha hga
    by_cases hi : i < rr.length
    · rwa [List.getElem?_append_left hi] at ha
    · rw [List.getElem?_append_right (by omega)] at ha
      have h1 := (List.getElem?_eq_some_iff.1 ha).2
      have : a = ⟨n, false, none, 0, 0⟩ := by
        rw [← h1]
        exact List.mem_singleton.1 (List.getElem_mem _)
      rw [this] at hga
      cases hga
  refine ⟨?_, h.x16, hf.set_ne (hf.ne B1 (by decide)) _, by simp [h.len], fun k r f hr hf => ?_, ⟨h.hq.1, by have h1 := h.hq.2; have h2 := hc.size; simp [World.setCell]; omega⟩, hB, fun k r g hr hg => ?_, fun i j a b g ha hb hga hgb => ?_⟩
  · rw [blk_set B1]
    unfold StR
    rw [List.setIfInBounds_toArray, List.set_append_right _ _ (by omega), hl]; rfl
  · have hlen := h.len
    by_cases hk : k < rr.length
    · rw [List.getElem?_append_left hk] at hr
      rw [List.getElem?_append_left (by omega)] at hf
      obtain ⟨h1, h2, h3⟩ := h.each k r f hr hf
      have h4 := h3.frame hc fun g hg hF => by
        obtain ⟨cur, hcur⟩ := h.f.blk' hF
        exact h3.ne hcur (by decide) hg
      exact ⟨h1, h2, h4.set_ne (h4.ne B1 (by decide)) _⟩
    · rw [List.getElem?_append_right (by omega)] at hr hf
      rw [← hlen] at hf
      obtain ⟨e, _⟩ : k - rr.length = 0 ∧ True := by
        have := (List.getElem?_eq_some_iff.1 hr).1
        simp at this
        exact ⟨by omega, trivial⟩
      rw [e] at hr hf
      cases hr
      cases hf
      exact ⟨rfl, rfl, Own.nil _ _ _⟩
  · exact h.hr k r g (aux g k r hr hg) hg
  · exact h.sep i j a b g (aux g i a ha hga) (aux g j b hb hgb) hga hgb
set_option maxHeartbeats 1000000 in
theorem rcall_any (w : World) (q : Nat) (fv : Value) (s : StM) (rr : List RR) (n : Int) (hs : IsRf B w q fv s rr) (hn : s.fs.length ≤ 1000) :
    Calls Try.prog 30 #[.pointer (some ⟨q, 0, none⟩), .int .i64 n] w (RPost B w q (.int .i64 (callV s n)) (callM s n)) := by
  by_cases h1 : n < 0
  · have e : Kp (callV s n = 1 ∧ callM s n = s) := ⟨by unfold callV callM; rw [if_pos (.inl h1), if_pos (.inl h1)]; exact ⟨rfl, rfl⟩⟩
    go_enter Try.func30, Try.ntmps30
    go_wp2
    go_ret
    rw [e.out.1, e.out.2]
    exact RPost.same hs (Below.refl _ _)
  have h1d : decide (n < 0) = false := by simpa using h1
  by_cases h2 : 4096 < n
  · have e : Kp (callV s n = 1 ∧ callM s n = s) := ⟨by unfold callV callM; rw [if_pos (.inr h2), if_pos (.inr h2)]; exact ⟨rfl, rfl⟩⟩
    go_enter Try.func30, Try.ntmps30
    go_wp2
    go_ret
    rw [e.out.1, e.out.2]
    exact RPost.same hs (Below.refl _ _)
  have h2d : decide (4096 < n) = false := by simpa using h2
  obtain ⟨A, c, hv, _⟩ := hs.fshape
  have qf := hs.cf
  have qz : w.frozen? ⟨q, 32, none⟩ = false := hs.fz _
  have hown := hs.f
  have hl := hs.len
  have HS := Kp.mk hs
  by_cases h3 : 64 ≤ s.fs.length
  · have e : Kp (callV s n = 210 ∧ callM s n = s) := ⟨by unfold callV callM; rw [if_neg (by omega), if_pos h3, if_neg (by omega), if_pos h3]; exact ⟨rfl, rfl⟩⟩
    have h3d : decide ((64 : Int) ≤ (s.fs.length : Int)) = true := by simp; omega
    have h3p : (64 : Int) ≤ (s.fs.length : Int) := by omega
    rw [hv] at qf
    clear hs hv hown hl
    go_enter Try.func30, Try.ntmps30
    go_wp2
    go_ret
    rw [e.out.1, e.out.2]
    exact RPost.same HS.out (Below.refl _ _)
  · have e : Kp (callV s n = 0 ∧ callM s n = { s with fs := s.fs ++ [⟨n, none⟩] }) := ⟨by unfold callV callM; rw [if_neg (by omega), if_neg h3, if_neg (by omega), if_neg h3]; exact ⟨rfl, rfl⟩⟩
    have h3d : decide ((64 : Int) ≤ (s.fs.length : Int)) = false := by simp; omega
    have hne := hs.f.ne hs.blk (by decide)
    have hpl := lt_of_block hs.blk
    have HL := Kp.mk hl
    have HV := Kp.mk hv
    clear hl hs
    subst hv
    go_enter Try.func30, Try.ntmps30
    go_wp2_with (at_builtin; refine app1_ev T64 ⟨n, false, none, 0, 0⟩ rfl _ _ rfl hown rfl rfl rfl (by simp) rfl (by rw [HL.out]; omega) (by rw [HL.out]; omega) ?_; intro A' n' c' w1 a0 a1 a2 a3; have B1 := a2.at HS.out.blk hne; have q1 : w1.cell? ⟨q, 32, none⟩ = some (.slice A s.fs.length c) := (by rw [blk_c B1]; exact StR_f _ _ HS.out.x16); have qf1 := blk_f B1 32; have pl1 := lt_of_block B1)
    go_ret
    rw [e.out.1, e.out.2]
    exact ⟨rfl, ⟨_, _, HS.out.snoc n a2 (fun g hg => by
      rcases a3 with h | ⟨g', h, h2⟩
      · rw [h] at hg; exact HS.out.hf g hg
      · rw [h] at hg; cases hg; have := HS.out.hq; have h3 := lt_of_block HS.out.blk; omega) a1⟩, (a2.mono fun g _ hg => HS.out.f.isTy (by decide) HS.out.hf g hg).set (p := ⟨q, 32, none⟩) (.inl HS.out.isTy) _⟩
theorem IsRf.dropLast {w1 : World} {q g m c : Nat} {s : StM} {rr : List RR} (h : IsRf B w1 q (.slice (some ⟨g, 0, none⟩) (m + 1) c) s rr) (hm : s.fs.length = m + 1) :
    IsRf B (w1.setCell ⟨q, 32, none⟩ (.slice (some ⟨g, 0, none⟩) m c)) q (.slice (some ⟨g, 0, none⟩) m c) { s with fs := s.fs.dropLast } rr.dropLast := by
  have hl : (eRC.flat s.x).length = 32 := by rw [eRC.flat_length, h.x16]; rfl
  have hlen := h.len
  have h5 := h.f.take m (by omega)
  have ed : rr.take m = rr.dropLast := by rw [List.dropLast_eq_take, hlen, hm]; rfl
  rw [ed] at h5
  have aux : ∀ (k : Nat) (r : RR), rr.dropLast[k]? = some r → rr[k]? = some r := by
    intro k r hr
    have hk := (List.getElem?_eq_some_iff.1 hr).1
    rw [List.length_dropLast] at hk
    rwa [List.getElem?_dropLast, if_pos (by omega)] at hr
  refine ⟨?_, h.x16, h5.set_ne (h5.ne h.blk (by decide)) _, by simp [hlen], fun k r f hr hf => ?_, ⟨h.hq.1, by have h1 := h.hq.2; simp [World.setCell]; omega⟩, h.hf, fun k r g hr hg => h.hr k r g (aux k r hr) hg, fun i j a b g ha hb hga hgb => h.sep i j a b g (aux i a ha) (aux j b hb) hga hgb⟩
  · rw [blk_set h.blk]
    unfold StR
    rw [List.setIfInBounds_toArray, List.set_append_right _ _ (by omega), hl]; rfl
  · have hk := (List.getElem?_eq_some_iff.1 hf).1
    rw [List.length_dropLast] at hk
    rw [List.getElem?_dropLast, if_pos (by omega)] at hf
    obtain ⟨h1, h2, h3⟩ := h.each k r f (aux k r hr) hf
    exact ⟨h1, h2, h3.set_ne (h3.ne h.blk (by decide)) _⟩
set_option maxHeartbeats 2000000 in
theorem rret_any (w : World) (q : Nat) (fv : Value) (s : StM) (rr : List RR) (hs : IsRf B w q fv s rr) (hn : s.fs.length ≤ 1000) :
    Calls Try.prog 31 #[.pointer (some ⟨q, 0, none⟩)] w (RPost B w q (.tuple #[.int .i64 (retV s).1, .int .i64 (retV s).2]) (retM s)) := by
  have HS := Kp.mk hs
  clear hs
  go_enter Try.func31, Try.ntmps31
  go_wp2_with fail
  refine (rlast_any w q fv s rr HS.out hn).mono ?_
  rintro e w1 ⟨P, hP, rfl, hb⟩
  rcases hP with ⟨h0, rfl⟩ | ⟨m, g, hm, hg, rfl⟩
  · have e : Kp (retV s = (0, 192) ∧ retM s = s) := ⟨by have h1 : retV s = (0, 192) := (by unfold retV; rw [List.eq_nil_of_length_eq_zero h0]; rfl); exact ⟨h1, by unfold retM; rw [h1]; rfl⟩⟩
    clear h0
    go_wp2
    go_ret2
    rw [e.out.1, e.out.2]
    exact RPost.same HS.out hb
  · obtain ⟨r, f, hr, hf, hl, hrt, hop, hown, hrn⟩ := HS.out.top hm
    obtain ⟨A, c, hv, hA⟩ := HS.out.fshape
    obtain ⟨g', rfl⟩ := hA (by omega)
    rw [hm] at hv
    subst hv
    have eg : g' = g := by simpa [Value.ownBlock] using hg
    subst eg
    have HS1 := Kp.mk (HS.out.below hb)
    obtain ⟨q0, q1, _⟩ := HS1.out.recc m r hr
    cases ho : r.op
    · rw [ho] at q1 hop
      have e : Kp (retV s = (r.rt, 0) ∧ retM s = { s with fs := s.fs.dropLast }) := ⟨by
        have h1 : retV s = (r.rt, 0) := by
          unfold retV; rw [hl, hrt]; cases hy : f.y; simp only [hy]; rw [hy] at hop; cases hop
        exact ⟨h1, by unfold retM; rw [h1]; rfl⟩⟩
      have qf := HS1.out.cf
      have qfz : w1.frozen? ⟨q, 32, none⟩ = false := HS1.out.fz _
      have hm2 : m ≤ 1000 := by omega
      have e1 : ((m : Int) + 1 - 1) = (m : Int) := by omega
      have m0 : (0 : Int) ≤ (m : Int) := by omega
      have m1 : (m : Int) ≤ (m : Int) + 1 := by omega
      have hcap : m + 1 ≤ c := by
        obtain ⟨A, c2, h1, h2, _⟩ := HS1.out.f.shape
        have h3 := HS.out.len
        rw [h3, hm] at h1 h2
        cases h1
        exact h2
      have hcap2 : (m : Int) ≤ (c : Int) := by omega
      have HM := Kp.mk hm
      clear hm hr hf hl hrt hop hown hrn hg hA ho
      go_wp2_with fail
      go_region
      all_goals go_wp2
      go_ret2
      rw [e.out.1, e.out.2]
      have h6 := (HS1.out.dropLast HM.out).drew
      exact ⟨rfl, ⟨_, _, h6⟩, ((Chg.of_below hb (Ty B TR w)).set (p := ⟨q, 32, none⟩) (.inl HS.out.isTy) _).drew⟩
    · rw [ho] at q1 hop
      have e : Kp (retV s = (0, 192) ∧ retM s = s) := ⟨by
        have h1 : retV s = (0, 192) := by
          unfold retV; rw [hl]; cases hy : f.y; rw [hy] at hop; cases hop; simp only [hy]
        exact ⟨h1, by unfold retM; rw [h1]; rfl⟩⟩
      clear hm hr hf hl hrt hop hown hrn hg hA ho
      go_wp2
      go_ret2
      rw [e.out.1, e.out.2]
      exact RPost.same HS.out hb
end Go.Proofs.Ythdfmopbihpcoaa
