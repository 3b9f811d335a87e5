/- What Open, Close, GetY and SetY of parleyref21 answer; for at most 1000 frames. -/
import Derived.Test.YthdfmopbihpcoaaRb
namespace Go.Proofs.Ythdfmopbihpcoaa
open Go.RowKit
variable {B : Bd}

def openM' (s : StM) (n : Int) : StM := if openV s n = 0 then openM s n.toNat else s
def closeM' (s : StM) : StM := if closeV s = 0 then closeM s else s
def setYM' (s : StM) (n u : Int) : StM := if setYV s n = 0 then setYM s n.toNat u else s
theorem IsRf.newTop {w w' : World} {q m : Nat} {fv : Value} {s : StM} {rr : List RR} {r' : RR} {f' : Fr} (h : IsRf B w q fv s rr) (hm : s.fs.length = m + 1) (hb : w'.heap[q]? = some (.cells (StR s.x fv) 69 (0, 0))) (hf : Own w' 63 eRR fv (rr.set m r'))
    (hrt : r'.rt = f'.rt) (hop : r'.op = f'.y.isSome) (ho : Own w' 66 eRC r'.v f'.cl) (hoth : ∀ (k : Nat) (a : RR) (f : Fr), k < m → rr[k]? = some a → Own w 66 eRC a.v f.cl → Own w' 66 eRC a.v f.cl)
    (hsz : w.heap.size ≤ w'.heap.size) (hB : ∀ g, r'.v.ownBlock = some g → B.In g) (hsep : ∀ (k : Nat) (a : RR) (g : Nat), k < m → rr[k]? = some a → a.v.ownBlock = some g → r'.v.ownBlock ≠ some g) : IsRf B w' q fv { s with fs := s.fs.dropLast ++ [f'] } (rr.set m r') := by
  have hlen := h.len
  have get : ∀ (k : Nat) (a : RR), (rr.set m r')[k]? = some a → (k = m ∧ a = r') ∨ (k < m ∧ rr[k]? = some a) := by
    intro k a ha
    rw [List.getElem?_set] at ha
    by_cases e : m = k
    · subst e
      rw [if_pos rfl, if_pos (by omega)] at ha
      cases ha
      exact .inl ⟨rfl, rfl⟩
    · rw [if_neg e] at ha
      have := (List.getElem?_eq_some_iff.1 ha).1
      exact .inr ⟨by omega, ha⟩
  refine ⟨hb, h.x16, hf, by simp [hlen]; omega, fun k a f ha hfk => ?_, ⟨h.hq.1, Nat.le_trans h.hq.2 hsz⟩, h.hf, fun k a g ha hg => ?_, fun i j a b g ha hb hga hgb => ?_⟩
  · rcases get k a ha with ⟨rfl, rfl⟩ | ⟨hk, ha⟩
    · rw [List.getElem?_append_right (by rw [List.length_dropLast]; omega), List.length_dropLast, show k - (s.fs.length - 1) = 0 by omega] at hfk
      cases hfk
      exact ⟨hrt, hop, ho⟩
    · rw [List.getElem?_append_left (by rw [List.length_dropLast]; omega), List.getElem?_dropLast, if_pos (by omega)] at hfk
      obtain ⟨h1, h2, h3⟩ := h.each k a f ha hfk
      exact ⟨h1, h2, hoth k a f hk ha h3⟩
  · rcases get k a ha with ⟨_, ea⟩ | ⟨_, ha2⟩
    · rw [ea] at hg; exact hB g hg
    · exact h.hr k a g ha2 hg
  · rcases get i a ha with ⟨hi, ea⟩ | ⟨hi, ha2⟩
    · rcases get j b hb with ⟨hj, _⟩ | ⟨hj, hb2⟩
      · rw [hi, hj]
      · rw [ea] at hga
        exact absurd hga (hsep j b g hj hb2 hgb)
    · rcases get j b hb with ⟨hj, eb⟩ | ⟨hj, hb2⟩
      · rw [eb] at hgb
        exact absurd hgb (hsep i a g hi ha2 hga)
      · exact h.sep i j a b g ha2 hb2 hga hgb
theorem rec_set {w : World} {g m c : Nat} {rr : List RR} {r : RR} (h : Own w 63 eRR (.slice (some ⟨g, 0, none⟩) (m + 1) c) rr) (hl : rr.length = m + 1) (hr : rr[m]? = some r) (j : Nat) (r' : RR) (u : Value) (hj : j < 3) (hy : eRR.f r' = (eRR.f r).set j u) :
    Own (w.setCell ⟨g, m * 3 + j, none⟩ u) 63 eRR (.slice (some ⟨g, 0, none⟩) (m + 1) c) (rr.set m r') := by
  obtain ⟨hi, rfl⟩ := List.getElem?_eq_some_iff.1 hr
  exact h.set hl.symm m j r' u hi hj hy
set_option maxHeartbeats 2000000 in
theorem rclose_any (w : World) (q : Nat) (fv : Value) (s : StM) (rr : List RR) (hs : IsRf B w q fv s rr) (hn : s.fs.length ≤ 1000) :
    Calls Try.prog 33 #[.pointer (some ⟨q, 0, none⟩)] w (RPost B w q (.int .i64 (closeV s)) (closeM' s)) := by
  have HS := Kp.mk hs
  clear hs
  go_enter Try.func33, Try.ntmps33
  go_wp2_with fail
  refine (rlast_any w q fv s rr HS.out hn).mono ?_
  rintro e w1 ⟨P, hP, rfl, hb⟩
  rcases hP with ⟨h0, rfl⟩ | ⟨m, g, hm, hg, rfl⟩
  · have e : Kp (closeV s = 192 ∧ closeM' s = s) := ⟨by have h1 : closeV s = 192 := (by unfold closeV; rw [List.eq_nil_of_length_eq_zero h0]; rfl); exact ⟨h1, by unfold closeM'; rw [h1]; rfl⟩⟩
    clear h0
    go_wp2
    go_ret
    rw [e.out.1, e.out.2]
    exact RPost.same HS.out hb
  · obtain ⟨r, f, hr, hf, hl, hrt, hop, hown, hrn⟩ := HS.out.top hm
    obtain ⟨A, c, hv, hA⟩ := HS.out.fshape
    obtain ⟨g', rfl⟩ := hA (by omega)
    rw [hm] at hv
    subst hv
    have eg : g' = g := by simpa [Value.ownBlock] using hg
    subst eg
    have HS1 := Kp.mk (HS.out.below hb)
    obtain ⟨q0, q1, q2⟩ := HS1.out.recc m r hr
    cases ho : r.op
    · rw [ho] at q1 hop
      have e : Kp (closeV s = 192 ∧ closeM' s = s) := ⟨by
        have h1 : closeV s = 192 := by
          unfold closeV; rw [hl]; cases hy : f.y; simp only [hy]; rw [hy] at hop; cases hop
        exact ⟨h1, by unfold closeM'; rw [h1]; rfl⟩⟩
      clear hm hr hf hl hrt hop hown hrn hg hA ho
      go_wp2
      go_ret
      rw [e.out.1, e.out.2]
      exact RPost.same HS.out hb
    · rw [ho] at q1 hop
      have e : Kp (closeV s = 0 ∧ closeM' s = { s with fs := s.fs.dropLast ++ [⟨r.rt, none⟩] }) := ⟨by
        have h1 : closeV s = 0 := by
          unfold closeV; rw [hl]; cases hy : f.y; rw [hy] at hop; cases hop; simp only [hy]
        exact ⟨h1, by unfold closeM' closeM; rw [h1, if_pos rfl, hl, hrt]⟩⟩
      have z1 : w1.frozen? ⟨g', m * 3 + 1, none⟩ = false := HS1.out.f.frozen _
      have z2 : w1.frozen? ⟨g', m * 3 + 2, none⟩ = false := HS1.out.f.frozen _
      have hpl := HS1.out.f.lt (g := g') rfl
      have hm2 : m ≤ 1000 := by omega
      have HM := Kp.mk hm
      have HR := Kp.mk hr
      have HO := Kp.mk ho
      clear hm hr hf hl hrt hop hown hrn hg hA ho
      go_wp2
      go_ret
      rw [e.out.1, e.out.2]
      have npg : q ≠ g' := fun e => HS1.out.f.ne HS1.out.blk (by decide) (by rw [e]; rfl)
      have hlen : rr.length = m + 1 := by rw [HS.out.len]; exact HM.out
      have k1 := rec_set HS1.out.f hlen HR.out 1 ⟨r.rt, false, r.A, r.n, r.c⟩ (.bool false) (by decide) (by simp [eRR])
      have k2 := rec_set (r := ⟨r.rt, false, r.A, r.n, r.c⟩) k1 (by simpa using hlen) (by rw [List.getElem?_set, if_pos rfl, if_pos (by omega)]) 2 ⟨r.rt, false, none, 0, 0⟩ (.slice none 0 0) (by decide) (by simp [eRR])
      rw [List.set_set] at k2
      have hcg := HS1.out.f.blk.choose_spec
      have hc : Chg (fun x => x = g') w1 ((w1.setCell ⟨g', m * 3 + 1, none⟩ (.bool false)).setCell ⟨g', m * 3 + 2, none⟩ (.slice none 0 0)) := ((Chg.refl (fun x => x = g') w1).set (p := ⟨g', m * 3 + 1, none⟩) (.inl rfl) _).set (p := ⟨g', m * 3 + 2, none⟩) (.inl rfl) _
      have hI := HS1.out.newTop (hsz := hc.size) (f' := ⟨r.rt, none⟩) HM.out (hc.at HS1.out.blk npg) k2 rfl rfl (Own.nil _ _ _) (fun k a f _ _ ho => ho.frame hc fun x hx e => ho.ne hcg (by decide) (by rw [← e]; exact hx)) (fun g h => by cases h) (fun k a g _ _ _ h => by cases h)
      exact ⟨rfl, ⟨_, _, hI⟩, (Chg.of_below hb (Ty B TR w)).then (hc.mono fun x _ hx => HS.out.f.isTy (by decide) HS.out.hf x (by rw [hx]; rfl))⟩
set_option maxHeartbeats 2000000 in
theorem rgety_any (w : World) (q : Nat) (fv : Value) (s : StM) (rr : List RR) (n : Int) (hs : IsRf B w q fv s rr) (hn : s.fs.length ≤ 1000) :
    Calls Try.prog 37 #[.pointer (some ⟨q, 0, none⟩), .int .i64 n] w (fun e w' => e = .returned (.tuple #[.int .u64 (getY s n).1, .bool (getY s n).2]) ∧ Below w.heap.size w w') := by
  have HS := Kp.mk hs
  clear hs
  go_enter Try.func37, Try.ntmps37
  go_wp2_with fail
  refine (rlast_any w q fv s rr HS.out hn).mono ?_
  rintro e w1 ⟨P, hP, rfl, hb⟩
  rcases hP with ⟨h0, rfl⟩ | ⟨m, g, hm, hg, rfl⟩
  · have e : Kp (getY s n = (0, false)) := ⟨by unfold getY; rw [List.eq_nil_of_length_eq_zero h0]; rfl⟩
    clear h0
    go_wp2
    go_ret2
    exact ⟨by rw [e.out]; rfl, hb⟩
  · obtain ⟨r, f, hr, hf, hl, hrt, hop, hown, hrn⟩ := HS.out.top hm
    obtain ⟨A, c, hv, hA⟩ := HS.out.fshape
    obtain ⟨g', rfl⟩ := hA (by omega)
    rw [hm] at hv
    subst hv
    have eg : g' = g := by simpa [Value.ownBlock] using hg
    subst eg
    have HS1 := Kp.mk (HS.out.below hb)
    obtain ⟨q0, q1, q2⟩ := HS1.out.recc m r hr
    by_cases h1 : n < 0
    · have e : Kp (getY s n = (0, false)) := ⟨by unfold getY; rw [hl]; simp only [if_pos h1]⟩
      clear hm hr hf hl hrt hop hown hrn hg hA
      go_wp2
      go_ret2
      exact ⟨by rw [e.out]; rfl, hb⟩
    have h1d : decide (n < 0) = false := by simpa using h1
    obtain ⟨k, rfl⟩ := Int.eq_ofNat_of_zero_le (show 0 ≤ n by omega)
    by_cases h2 : r.n ≤ k
    · have e : Kp (getY s k = (0, false)) := ⟨by unfold getY; rw [hl]; simp only [if_neg h1, Int.toNat_natCast]; rw [List.getElem?_eq_none (by omega)]⟩
      have h2d : decide ((r.n : Int) ≤ (k : Int)) = true := by simp; omega
      have h2p : (r.n : Int) ≤ (k : Int) := by omega
      clear hm hr hf hl hrt hop hown hrn hg hA
      go_wp2
      go_ret2
      exact ⟨by rw [e.out]; rfl, hb⟩
    · have hkl : k < f.cl.length := by omega
      have hsrc := (hown.frame (Chg.of_below hb NoF) (fun _ _ h => h))
      obtain ⟨gy, hgy⟩ : ∃ g, r.A = some ⟨g, 0, none⟩ := by
        obtain ⟨A2, c2, hv2, _, _, hs0, hs1⟩ := hown.shape
        have ea : r.A = A2 := by unfold RR.v at hv2; injection hv2
        cases hA2 : A2 with
        | none => have := (hs0 hA2).1; rw [this] at hkl; simp at hkl
        | some x => obtain ⟨g, rfl⟩ := hs1 x hA2; exact ⟨g, by rw [ea, hA2]⟩
      have hsrc2 : Own w1 66 eRC (.slice (some ⟨gy, 0, none⟩) r.n r.c) f.cl := by rw [← hgy]; exact hsrc
      have c0 := hsrc2.elem k 0 hkl (by decide)
      have c1 := hsrc2.elem k 1 hkl (by decide)
      obtain ⟨x, hx⟩ : ∃ x, x = f.cl[k] := ⟨_, rfl⟩
      rw [← hx] at c0 c1
      have b0 : w1.cell? ⟨gy, k * 2, none⟩ = some (.bool x.on) := by simpa [eRC] using c0
      have b1 : w1.cell? ⟨gy, k * 2 + 1, none⟩ = some (.int .u64 x.w) := by simpa [eRC] using c1
      rw [hgy] at q2
      have e : Kp (getY s k = (if x.on then x.w else 0, x.on)) := ⟨by unfold getY; rw [hl]; simp only [if_neg h1, Int.toNat_natCast]; rw [List.getElem?_eq_getElem hkl, hx]⟩
      have h2d : decide ((r.n : Int) ≤ (k : Int)) = false := by simp; omega
      have h2p : (k : Int) < (r.n : Int) := by omega
      have h2n : k < r.n := by omega
      have k0 : (0 : Int) ≤ (k : Int) := by omega
      clear hm hr hf hl hrt hop hown hrn hg hA hsrc hsrc2 hgy c0 c1 hx h1 h2 hkl
      obtain ⟨xw, on⟩ := x
      cases on
      · go_wp2
        go_ret2
        exact ⟨by rw [e.out]; rfl, hb⟩
      · go_wp2
        go_ret2
        exact ⟨by rw [e.out]; rfl, hb⟩
theorem mk61_0 (w : World) : (Instr.makeSlice 61 (.int .i64 0) (.int .i64 0)).run Try.prog w = .ok (.slice (some ⟨w.heap.size, 0, none⟩) 0 0) (w.alloc (.cells (eRC.flat (List.replicate 0 zeroCl)).toArray 66)) := by kernel_rfl
theorem mk61_1 (w : World) : (Instr.makeSlice 61 (.int .i64 1) (.int .i64 1)).run Try.prog w = .ok (.slice (some ⟨w.heap.size, 0, none⟩) 1 1) (w.alloc (.cells (eRC.flat (List.replicate 1 zeroCl)).toArray 66)) := by kernel_rfl
theorem mk61_2 (w : World) : (Instr.makeSlice 61 (.int .i64 2) (.int .i64 2)).run Try.prog w = .ok (.slice (some ⟨w.heap.size, 0, none⟩) 2 2) (w.alloc (.cells (eRC.flat (List.replicate 2 zeroCl)).toArray 66)) := by kernel_rfl
theorem mk61_3 (w : World) : (Instr.makeSlice 61 (.int .i64 3) (.int .i64 3)).run Try.prog w = .ok (.slice (some ⟨w.heap.size, 0, none⟩) 3 3) (w.alloc (.cells (eRC.flat (List.replicate 3 zeroCl)).toArray 66)) := by kernel_rfl
theorem mk61_4 (w : World) : (Instr.makeSlice 61 (.int .i64 4) (.int .i64 4)).run Try.prog w = .ok (.slice (some ⟨w.heap.size, 0, none⟩) 4 4) (w.alloc (.cells (eRC.flat (List.replicate 4 zeroCl)).toArray 66)) := by kernel_rfl
theorem mk61_5 (w : World) : (Instr.makeSlice 61 (.int .i64 5) (.int .i64 5)).run Try.prog w = .ok (.slice (some ⟨w.heap.size, 0, none⟩) 5 5) (w.alloc (.cells (eRC.flat (List.replicate 5 zeroCl)).toArray 66)) := by kernel_rfl
theorem mk61_6 (w : World) : (Instr.makeSlice 61 (.int .i64 6) (.int .i64 6)).run Try.prog w = .ok (.slice (some ⟨w.heap.size, 0, none⟩) 6 6) (w.alloc (.cells (eRC.flat (List.replicate 6 zeroCl)).toArray 66)) := by kernel_rfl
theorem mk61_7 (w : World) : (Instr.makeSlice 61 (.int .i64 7) (.int .i64 7)).run Try.prog w = .ok (.slice (some ⟨w.heap.size, 0, none⟩) 7 7) (w.alloc (.cells (eRC.flat (List.replicate 7 zeroCl)).toArray 66)) := by kernel_rfl
theorem mk61_8 (w : World) : (Instr.makeSlice 61 (.int .i64 8) (.int .i64 8)).run Try.prog w = .ok (.slice (some ⟨w.heap.size, 0, none⟩) 8 8) (w.alloc (.cells (eRC.flat (List.replicate 8 zeroCl)).toArray 66)) := by kernel_rfl
theorem mk61_9 (w : World) : (Instr.makeSlice 61 (.int .i64 9) (.int .i64 9)).run Try.prog w = .ok (.slice (some ⟨w.heap.size, 0, none⟩) 9 9) (w.alloc (.cells (eRC.flat (List.replicate 9 zeroCl)).toArray 66)) := by kernel_rfl
theorem mk61_10 (w : World) : (Instr.makeSlice 61 (.int .i64 10) (.int .i64 10)).run Try.prog w = .ok (.slice (some ⟨w.heap.size, 0, none⟩) 10 10) (w.alloc (.cells (eRC.flat (List.replicate 10 zeroCl)).toArray 66)) := by kernel_rfl
theorem mk61_11 (w : World) : (Instr.makeSlice 61 (.int .i64 11) (.int .i64 11)).run Try.prog w = .ok (.slice (some ⟨w.heap.size, 0, none⟩) 11 11) (w.alloc (.cells (eRC.flat (List.replicate 11 zeroCl)).toArray 66)) := by kernel_rfl
theorem mk61_12 (w : World) : (Instr.makeSlice 61 (.int .i64 12) (.int .i64 12)).run Try.prog w = .ok (.slice (some ⟨w.heap.size, 0, none⟩) 12 12) (w.alloc (.cells (eRC.flat (List.replicate 12 zeroCl)).toArray 66)) := by kernel_rfl
theorem mk61_13 (w : World) : (Instr.makeSlice 61 (.int .i64 13) (.int .i64 13)).run Try.prog w = .ok (.slice (some ⟨w.heap.size, 0, none⟩) 13 13) (w.alloc (.cells (eRC.flat (List.replicate 13 zeroCl)).toArray 66)) := by kernel_rfl
theorem mk61_14 (w : World) : (Instr.makeSlice 61 (.int .i64 14) (.int .i64 14)).run Try.prog w = .ok (.slice (some ⟨w.heap.size, 0, none⟩) 14 14) (w.alloc (.cells (eRC.flat (List.replicate 14 zeroCl)).toArray 66)) := by kernel_rfl
theorem mk61_15 (w : World) : (Instr.makeSlice 61 (.int .i64 15) (.int .i64 15)).run Try.prog w = .ok (.slice (some ⟨w.heap.size, 0, none⟩) 15 15) (w.alloc (.cells (eRC.flat (List.replicate 15 zeroCl)).toArray 66)) := by kernel_rfl
theorem mk61_16 (w : World) : (Instr.makeSlice 61 (.int .i64 16) (.int .i64 16)).run Try.prog w = .ok (.slice (some ⟨w.heap.size, 0, none⟩) 16 16) (w.alloc (.cells (eRC.flat (List.replicate 16 zeroCl)).toArray 66)) := by kernel_rfl
theorem mk61 (w : World) (k : Nat) (hk : k ≤ 16) : (Instr.makeSlice 61 (.int .i64 k) (.int .i64 k)).run Try.prog w = .ok (.slice (some ⟨w.heap.size, 0, none⟩) k k) (w.alloc (.cells (eRC.flat (List.replicate k zeroCl)).toArray 66)) := by
  match k, hk with
  | 0, _ => exact mk61_0 w
  | 1, _ => exact mk61_1 w
  | 2, _ => exact mk61_2 w
  | 3, _ => exact mk61_3 w
  | 4, _ => exact mk61_4 w
  | 5, _ => exact mk61_5 w
  | 6, _ => exact mk61_6 w
  | 7, _ => exact mk61_7 w
  | 8, _ => exact mk61_8 w
  | 9, _ => exact mk61_9 w
  | 10, _ => exact mk61_10 w
  | 11, _ => exact mk61_11 w
  | 12, _ => exact mk61_12 w
  | 13, _ => exact mk61_13 w
  | 14, _ => exact mk61_14 w
  | 15, _ => exact mk61_15 w
  | 16, _ => exact mk61_16 w
  | k + 17, h => omega
set_option maxHeartbeats 2000000 in
theorem ropen_any (w : World) (q : Nat) (fv : Value) (s : StM) (rr : List RR) (n : Int) (hs : IsRf B w q fv s rr) (hn : s.fs.length ≤ 1000) :
    Calls Try.prog 32 #[.pointer (some ⟨q, 0, none⟩), .int .i64 n] w (RPost B w q (.int .i64 (openV s n)) (openM' s n)) := by
  have HS := Kp.mk hs
  by_cases h1 : n < 0
  · have e : Kp (openV s n = 1 ∧ openM' s n = s) := ⟨by have h2 : openV s n = 1 := (by unfold openV; rw [if_pos (.inl h1)]); exact ⟨h2, by unfold openM'; rw [h2]; rfl⟩⟩
    clear hs
    go_enter Try.func32, Try.ntmps32
    go_wp2
    go_ret
    rw [e.out.1, e.out.2]
    exact RPost.same HS.out (Below.refl _ _)
  have h1d : decide (n < 0) = false := by simpa using h1
  by_cases h2 : 16 < n
  · have e : Kp (openV s n = 1 ∧ openM' s n = s) := ⟨by have h3 : openV s n = 1 := (by unfold openV; rw [if_pos (.inr h2)]); exact ⟨h3, by unfold openM'; rw [h3]; rfl⟩⟩
    clear hs
    go_enter Try.func32, Try.ntmps32
    go_wp2
    go_ret
    rw [e.out.1, e.out.2]
    exact RPost.same HS.out (Below.refl _ _)
  have h2d : decide (16 < n) = false := by simpa using h2
  obtain ⟨k, rfl⟩ := Int.eq_ofNat_of_zero_le (show 0 ≤ n by omega)
  have hk : k ≤ 16 := by omega
  have hno : Kp (¬ ((k : Int) < 0 ∨ 16 < (k : Int))) := ⟨by omega⟩
  clear hs h1 h2
  go_enter Try.func32, Try.ntmps32
  go_wp2_with fail
  refine (rlast_any w q fv s rr HS.out hn).mono ?_
  rintro e w1 ⟨P, hP, rfl, hb⟩
  rcases hP with ⟨h0, rfl⟩ | ⟨m, g, hm, hg, rfl⟩
  · have e : Kp (openV s k = 192 ∧ openM' s k = s) := ⟨by have h1 : openV s k = 192 := (by unfold openV; rw [if_neg hno.out, List.eq_nil_of_length_eq_zero h0]; rfl); exact ⟨h1, by unfold openM'; rw [h1]; rfl⟩⟩
    clear h0
    go_wp2
    go_ret
    rw [e.out.1, e.out.2]
    exact RPost.same HS.out hb
  · obtain ⟨r, f, hr, hf, hl, hrt, hop, hown, hrn⟩ := HS.out.top hm
    obtain ⟨A, c, hv, hA⟩ := HS.out.fshape
    obtain ⟨g', rfl⟩ := hA (by omega)
    rw [hm] at hv
    subst hv
    have eg : g' = g := by simpa [Value.ownBlock] using hg
    subst eg
    have HS1 := Kp.mk (HS.out.below hb)
    obtain ⟨q0, q1, q2⟩ := HS1.out.recc m r hr
    cases ho : r.op
    · rw [ho] at q1 hop
      have e : Kp (openV s k = 0 ∧ openM' s k = { s with fs := s.fs.dropLast ++ [⟨r.rt, some (List.replicate k zeroCl)⟩] }) := ⟨by
        have h1 : openV s k = 0 := by
          unfold openV; rw [if_neg hno.out, hl]; cases hy : f.y; simp only [hy]; rw [hy] at hop; cases hop
        exact ⟨h1, by unfold openM' openM; rw [h1, if_pos rfl, hl, hrt, Int.toNat_natCast]⟩⟩
      have z1 : w1.frozen? ⟨g', m * 3 + 1, none⟩ = false := HS1.out.f.frozen _
      have z2 : w1.frozen? ⟨g', m * 3 + 2, none⟩ = false := HS1.out.f.frozen _
      have hpl := HS1.out.f.lt (g := g') rfl
      have hm2 : m ≤ 1000 := by omega
      have HM := Kp.mk hm
      have HR := Kp.mk hr
      have HO := Kp.mk ho
      have hmk := fun w => mk61 w k hk
      have e2 : ((m * 3 + 1 : Nat) = m * 3 + 2) = False := by simp
      have HPL := Kp.mk hpl
      clear hm hr hf hl hrt hop hown hrn hg hA ho
      go_wp2
      go_ret
      rw [e.out.1, e.out.2]
      have npg : q ≠ g' := fun e => HS1.out.f.ne HS1.out.blk (by decide) (by rw [e]; rfl)
      have hlen : rr.length = m + 1 := by rw [HS.out.len]; exact HM.out
      have k1 := rec_set HS1.out.f hlen HR.out 1 ⟨r.rt, true, r.A, r.n, r.c⟩ (.bool true) (by decide) (by simp [eRR])
      have k2 := rec_set (r := ⟨r.rt, true, r.A, r.n, r.c⟩) k1 (by simpa using hlen) (by rw [List.getElem?_set, if_pos rfl, if_pos (by omega)]) 2 ⟨r.rt, true, some ⟨w1.heap.size, 0, none⟩, k, k⟩ (.slice (some ⟨w1.heap.size, 0, none⟩) k k) (by decide) (by simp [eRR])
      rw [List.set_set] at k2
      have hcg := HS1.out.f.blk.choose_spec
      have hc := (((Chg.refl (fun x => x = g') w1).set (p := ⟨g', m * 3 + 1, none⟩) (.inl rfl) (.bool true)).set (p := ⟨g', m * 3 + 2, none⟩) (.inl rfl) (.slice (some ⟨w1.heap.size, 0, none⟩) k k)).alloc (.cells (eRC.flat (List.replicate k zeroCl)).toArray 66)
      have hnew := blk_new ((w1.setCell ⟨g', m * 3 + 1, none⟩ (.bool true)).setCell ⟨g', m * 3 + 2, none⟩ (.slice (some ⟨w1.heap.size, 0, none⟩) k k)) (.cells (eRC.flat (List.replicate k zeroCl)).toArray 66)
      rw [show ((w1.setCell ⟨g', m * 3 + 1, none⟩ (.bool true)).setCell ⟨g', m * 3 + 2, none⟩ (.slice (some ⟨w1.heap.size, 0, none⟩) k k)).heap.size = w1.heap.size from by simp [World.setCell]] at hnew
      have hI := HS1.out.newTop (hsz := hc.size) (r' := ⟨r.rt, true, some ⟨w1.heap.size, 0, none⟩, k, k⟩) (f' := ⟨r.rt, some (List.replicate k zeroCl)⟩) HM.out (hc.at HS1.out.blk npg) (k2.alloc _) rfl rfl (own_lit hnew (by simp [Fr.cl]) (by simp [Fr.cl]) (show k ≤ 1000000000 by omega)) (fun k a f _ _ ho => ho.frame hc fun x hx e => ho.ne hcg (by decide) (by rw [← e]; exact hx)) (fun x h => by
        have h2 : w1.heap.size = x := by simpa [RR.v, Value.ownBlock] using h
        have := HS1.out.hq
        have := lt_of_block HS1.out.blk
        omega) (fun i a x _ ha hx h => by
        obtain ⟨_, _, _, _, hoa⟩ := HS1.out.at_ i a ha
        have := hoa.lt hx
        have h2 : w1.heap.size = x := by simpa [RR.v, Value.ownBlock] using h
        omega)
      exact ⟨rfl, ⟨_, _, hI⟩, (Chg.of_below hb (Ty B TR w)).then (hc.mono fun x _ hx => HS.out.f.isTy (by decide) HS.out.hf x (by rw [hx]; rfl))⟩
    · rw [ho] at q1 hop
      have e : Kp (openV s k = 192 ∧ openM' s k = s) := ⟨by
        have h1 : openV s k = 192 := by
          unfold openV; rw [if_neg hno.out, hl]; cases hy : f.y; rw [hy] at hop; cases hop; simp only [hy]
        exact ⟨h1, by unfold openM'; rw [h1]; rfl⟩⟩
      clear hm hr hf hl hrt hop hown hrn hg hA ho
      go_wp2
      go_ret
      rw [e.out.1, e.out.2]
      exact RPost.same HS.out hb
set_option maxHeartbeats 2000000 in
theorem rsety_any (w : World) (q : Nat) (fv : Value) (s : StM) (rr : List RR) (n u : Int) (hs : IsRf B w q fv s rr) (hn : s.fs.length ≤ 1000) :
    Calls Try.prog 34 #[.pointer (some ⟨q, 0, none⟩), .int .i64 n, .int .u64 u] w (RPost B w q (.int .i64 (setYV s n)) (setYM' s n u)) := by
  have HS := Kp.mk hs
  clear hs
  go_enter Try.func34, Try.ntmps34
  go_wp2_with fail
  refine (rlast_any w q fv s rr HS.out hn).mono ?_
  rintro e w1 ⟨P, hP, rfl, hb⟩
  rcases hP with ⟨h0, rfl⟩ | ⟨m, g, hm, hg, rfl⟩
  · have e : Kp (setYV s n = 192 ∧ setYM' s n u = s) := ⟨by have h1 : setYV s n = 192 := (by unfold setYV; rw [List.eq_nil_of_length_eq_zero h0]; rfl); exact ⟨h1, by unfold setYM'; rw [h1]; rfl⟩⟩
    clear h0
    go_wp2
    go_ret
    rw [e.out.1, e.out.2]
    exact RPost.same HS.out hb
  · obtain ⟨r, f, hr, hf, hl, hrt, hop, hown, hrn⟩ := HS.out.top hm
    obtain ⟨A, c, hv, hA⟩ := HS.out.fshape
    obtain ⟨g', rfl⟩ := hA (by omega)
    rw [hm] at hv
    subst hv
    have eg : g' = g := by simpa [Value.ownBlock] using hg
    subst eg
    have HS1 := Kp.mk (HS.out.below hb)
    obtain ⟨q0, q1, q2⟩ := HS1.out.recc m r hr
    cases ho : r.op
    · rw [ho] at q1 hop
      have e : Kp (setYV s n = 192 ∧ setYM' s n u = s) := ⟨by
        have h1 : setYV s n = 192 := by
          unfold setYV; rw [hl]; cases hy : f.y; simp only [hy]; rw [hy] at hop; cases hop
        exact ⟨h1, by unfold setYM'; rw [h1]; rfl⟩⟩
      clear hm hr hf hl hrt hop hown hrn hg hA ho
      go_wp2
      go_ret
      rw [e.out.1, e.out.2]
      exact RPost.same HS.out hb
    rw [ho] at q1 hop
    obtain ⟨ly, hy⟩ : ∃ ly, f.y = some ly := by cases hy : f.y; rw [hy] at hop; cases hop; exact ⟨_, rfl⟩
    have hcl : f.cl = ly := by unfold Fr.cl; rw [hy]; rfl
    rw [hcl] at hrn hown
    by_cases h1 : n < 0
    · have e : Kp (setYV s n = 1 ∧ setYM' s n u = s) := ⟨by
        have h2 : setYV s n = 1 := by unfold setYV; rw [hl]; simp only [hy]; rw [if_pos (.inl h1)]
        exact ⟨h2, by unfold setYM'; rw [h2]; rfl⟩⟩
      clear hm hr hf hl hrt hop hown hrn hg hA ho hy hcl
      go_wp2
      go_ret
      rw [e.out.1, e.out.2]
      exact RPost.same HS.out hb
    have h1d : decide (n < 0) = false := by simpa using h1
    obtain ⟨k, rfl⟩ := Int.eq_ofNat_of_zero_le (show 0 ≤ n by omega)
    by_cases h2 : r.n ≤ k
    · have e : Kp (setYV s k = 1 ∧ setYM' s k u = s) := ⟨by
        have h3 : setYV s k = 1 := by unfold setYV; rw [hl]; simp only [hy]; rw [if_pos (.inr (by omega))]
        exact ⟨h3, by unfold setYM'; rw [h3]; rfl⟩⟩
      have h2d : decide ((r.n : Int) ≤ (k : Int)) = true := by simp; omega
      have h2p : (r.n : Int) ≤ (k : Int) := by omega
      clear hm hr hf hl hrt hop hown hrn hg hA ho hy hcl
      go_wp2
      go_ret
      rw [e.out.1, e.out.2]
      exact RPost.same HS.out hb
    · have hkl : k < ly.length := by omega
      have hsrc := (hown.frame (Chg.of_below hb NoF) (fun _ _ h => h))
      obtain ⟨gy, hgy⟩ : ∃ g, r.A = some ⟨g, 0, none⟩ := by
        obtain ⟨A2, c2, hv2, _, _, hs0, hs1⟩ := hown.shape
        have ea : r.A = A2 := by unfold RR.v at hv2; injection hv2
        cases hA2 : A2 with
        | none => have := (hs0 hA2).1; rw [this] at hkl; simp at hkl
        | some x => obtain ⟨g, rfl⟩ := hs1 x hA2; exact ⟨g, by rw [ea, hA2]⟩
      have hsrc2 : Own w1 66 eRC (.slice (some ⟨gy, 0, none⟩) r.n r.c) ly := by rw [← hgy]; exact hsrc
      have c0 := hsrc2.elem k 0 hkl (by decide)
      have c1 := hsrc2.elem k 1 hkl (by decide)
      obtain ⟨x, hx⟩ : ∃ x, x = ly[k] := ⟨_, rfl⟩
      rw [← hx] at c0 c1
      have b0 : w1.cell? ⟨gy, k * 2, none⟩ = some (.bool x.on) := by simpa [eRC] using c0
      have b1 : w1.cell? ⟨gy, k * 2 + 1, none⟩ = some (.int .u64 x.w) := by simpa [eRC] using c1
      have z0 : w1.frozen? ⟨gy, k * 2, none⟩ = false := hsrc2.frozen _
      have z1 : w1.frozen? ⟨gy, k * 2 + 1, none⟩ = false := hsrc2.frozen _
      have hgl := hsrc2.lt (g := gy) rfl
      rw [hgy] at q2
      have e : Kp (setYV s k = 0 ∧ setYM' s k u = { s with fs := s.fs.dropLast ++ [⟨r.rt, some (ly.set k ⟨u, true⟩)⟩] }) := ⟨by
        have h3 : setYV s k = 0 := by unfold setYV; rw [hl]; simp only [hy]; rw [if_neg (by omega)]
        exact ⟨h3, by unfold setYM' setYM; rw [h3, if_pos rfl, hl, hrt, Int.toNat_natCast]; simp [hy]⟩⟩
      have h2d : decide ((r.n : Int) ≤ (k : Int)) = false := by simp; omega
      have h2p : (k : Int) < (r.n : Int) := by omega
      have h2n : k < r.n := by omega
      have k0 : (0 : Int) ≤ (k : Int) := by omega
      have HM := Kp.mk hm
      have HR := Kp.mk hr
      have HO := Kp.mk ho
      have HSRC := Kp.mk hsrc2
      have HGY := Kp.mk hgy
      have HRN := Kp.mk hrn
      have HKL := Kp.mk hkl
      clear hm hr hf hl hrt hop hown hrn hg hA hsrc hsrc2 hgy c0 c1 hx h1 h2 hkl ho hy hcl
      go_wp2
      go_ret
      rw [e.out.1, e.out.2]
      have npg : q ≠ gy := fun e => HSRC.out.ne HS1.out.blk (by decide) (by rw [e]; rfl)
      have hset : rr.set m r = rr := by
        obtain ⟨hi, he⟩ := List.getElem?_eq_some_iff.1 HR.out
        rw [← he]; exact List.set_getElem_self hi
      have k1 := HSRC.out.set HRN.out k 0 ⟨ly[k]'HKL.out |>.w, true⟩ (.bool true) HKL.out (by decide) (by simp [eRC])
      have k2 := k1.set (by simpa using HRN.out) k 1 ⟨u, true⟩ (.int .u64 u) (by simpa using HKL.out) (by decide) (by simp [eRC])
      rw [List.set_set] at k2
      have hcg := HSRC.out.blk.choose_spec
      have hc : Chg (fun x => x = gy) w1 ((w1.setCell ⟨gy, k * 2, none⟩ (.bool true)).setCell ⟨gy, k * 2 + 1, none⟩ (.int .u64 u)) := ((Chg.refl (fun x => x = gy) w1).set (p := ⟨gy, k * 2, none⟩) (.inl rfl) _).set (p := ⟨gy, k * 2 + 1, none⟩) (.inl rfl) _
      have hro : r.v.ownBlock = some gy := by unfold RR.v; rw [HGY.out]; rfl
      have hI := HS1.out.newTop (hsz := hc.size) (r' := r) (f' := ⟨r.rt, some (ly.set k ⟨u, true⟩)⟩) HM.out (hc.at HS1.out.blk npg) (by rw [hset]; exact HS1.out.f.frame hc fun x hx e => HS1.out.f.ne hcg (by decide) (by rw [← e]; exact hx)) rfl (by rw [HO.out]; rfl) (by unfold RR.v; rw [HGY.out]; exact k2) (fun i a f hi ha ho => ho.frame hc fun x hx e => by
        have := HS1.out.sep i m a r gy ha HR.out (by rw [← e]; exact hx) hro
        omega) (fun x hx => HS1.out.hr m r x HR.out hx) (fun i a x hi ha hx h => by
        have := HS1.out.sep i m a r x ha HR.out hx h
        omega)
      exact ⟨rfl, ⟨_, _, hI⟩, Chg.ty (Chg.of_below hb (Ty B TR w)) (hc.mono fun x _ hxe => by
        rw [hxe]
        exact HSRC.out.isTy (by decide) (fun g hg => HS1.out.hr m r g HR.out (by unfold RR.v; rw [HGY.out]; exact hg)) gy rfl)⟩
end Go.Proofs.Ythdfmopbihpcoaa
