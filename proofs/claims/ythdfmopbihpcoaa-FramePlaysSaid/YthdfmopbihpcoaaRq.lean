/- What All of parleyref21 answers: the words that are set; for at most 1000 frames and 900000 slots. -/
import Derived.Test.YthdfmopbihpcoaaRp
namespace Go.Proofs.Ythdfmopbihpcoaa
open Go.RowKit
variable {B : Bd}

/-- The reference's cells are at their places. -/
def RAt (w : World) (ps : List Plc) (cs : List Cl) : Prop := ps.length = cs.length ∧ ∀ (i b o : Nat) (c : Cl), ps[i]? = some (b, o) → cs[i]? = some c → w.cell? ⟨b, o, none⟩ = some (.bool c.on) ∧ w.cell? ⟨b, o + 1, none⟩ = some (.int .u64 c.w) ∧ w.frozen? ⟨b, o + 1, none⟩ = false ∧ b < w.heap.size
theorem RAt.append {w : World} {ps ps' : List Plc} {cs cs' : List Cl} (h : RAt w ps cs) (h' : RAt w ps' cs') : RAt w (ps ++ ps') (cs ++ cs') := by
  refine ⟨by rw [List.length_append, List.length_append, h.1, h'.1], fun i b o c hp hc => ?_⟩
  by_cases hi : i < ps.length
  · rw [List.getElem?_append_left hi] at hp
    rw [List.getElem?_append_left (by rw [← h.1]; exact hi)] at hc
    exact h.2 i b o c hp hc
  · rw [List.getElem?_append_right (by omega)] at hp
    rw [List.getElem?_append_right (by rw [← h.1]; omega), ← h.1] at hc
    exact h'.2 _ b o c hp hc
theorem RAt.row {w : World} {g n c : Nat} {l : List Cl} (h : Own w 66 eRC (.slice (some ⟨g, 0, none⟩) n c) l) (hn : n = l.length) : RAt w (row2 g n) l := by
  refine ⟨by rw [row2_len, hn], fun i b o x hp hc => ?_⟩
  obtain ⟨hi, rfl⟩ := List.getElem?_eq_some_iff.1 hc
  rw [row2_get _ _ _ (by omega)] at hp
  cases hp
  exact ⟨h.elem i 0 hi (by decide), h.elem i 1 hi (by decide), h.frozen _, lt_of_block h.blk.choose_spec⟩
theorem rat_rY {w : World} (rr : List RR) (fs : List Fr) (hl : rr.length = fs.length) (h : ∀ (k : Nat) (r : RR) (f : Fr), rr[k]? = some r → fs[k]? = some f → r.n = f.cl.length ∧ (0 < r.n → r.A = some ⟨r.b, 0, none⟩) ∧ Own w 66 eRC r.v f.cl) : RAt w (rY rr) (allY fs) := by
  induction rr generalizing fs with
  | nil => cases fs with | nil => exact ⟨rfl, fun i b o c hp => by simp [rY] at hp⟩ | cons f fs => simp at hl
  | cons r rr ih =>
    cases fs with
    | nil => simp at hl
    | cons f fs =>
      rw [rY_cons, allY_cons]
      obtain ⟨h1, h2, h3⟩ := h 0 r f rfl rfl
      refine RAt.append ?_ (ih fs (by simpa using hl) (fun k r f hr hf => h (k + 1) r f hr hf))
      by_cases hz : r.n = 0
      · have hcl : f.cl = [] := List.eq_nil_of_length_eq_zero (by omega)
        rw [hz, hcl]
        exact ⟨rfl, fun i b o c hp => by simp [row2] at hp⟩
      · unfold RR.v at h3
        rw [h2 (by omega)] at h3
        exact RAt.row h3 h1
theorem IsRf.at {w : World} {q : Nat} {fv : Value} {s : StM} {rr : List RR} (h : IsRf B w q fv s rr) : RAt w (rplaces q rr) (cellsOf s) := by
  unfold rplaces cellsOf
  refine RAt.append ⟨by rw [row2_len, h.x16], fun i b o c hp hc => ?_⟩ (rat_rY rr s.fs h.len fun k r f hr hf => ⟨(h.rn k r f hr hf).1, (h.rn k r f hr hf).2, (h.each k r f hr hf).2.2⟩)
  have hi : i < 16 := by rw [← h.x16]; exact (List.getElem?_eq_some_iff.1 hc).1
  rw [row2_get _ _ _ hi] at hp
  cases hp
  obtain ⟨h1, h2⟩ := h.cx i c hc
  exact ⟨h1, h2, h.fz _, lt_of_block h.blk⟩
theorem RAt.below {w w' : World} {ps : List Plc} {cs : List Cl} (h : RAt w ps cs) (hb : Below w.heap.size w w') : RAt w' ps cs := ⟨h.1, fun i b o c hp hc => by
  obtain ⟨h1, h2, h3, h4⟩ := h.2 i b o c hp hc
  refine ⟨(hb.cell (p := ⟨b, o, none⟩) h4).trans h1, (hb.cell (p := ⟨b, o + 1, none⟩) h4).trans h2, ?_, Nat.lt_of_lt_of_le h4 hb.size⟩
  have := hb.block b h4
  simp only [World.frozen?, this] at h3 ⊢
  exact h3⟩
def RAllPost (w : World) (s : StM) (e : Ending) (w' : World) : Prop := ∃ A c, e = .returned (.slice A (onW (cellsOf s)).length c) ∧ Own w' 29 eU64 (.slice A (onW (cellsOf s)).length c) (onW (cellsOf s)) ∧ Fresh w (.slice A (onW (cellsOf s)).length c) ∧ Below w.heap.size w w'
set_option maxHeartbeats 4000000 in
theorem rall_any (w : World) (q : Nat) (fv : Value) (s : StM) (rr : List RR) (hs : IsRf B w q fv s rr) (hn : s.fs.length ≤ 1000) (hny : (allY s.fs).length ≤ 900000) :
    Calls Try.prog 22 #[.pointer (some ⟨q, 0, none⟩)] w (RAllPost w s) := by
  have HE := Kp.mk (rplaces_any w q fv s rr hs hn (by omega))
  have HA := Kp.mk hs.at
  have hlenc : (cellsOf s).length = 16 + (allY s.fs).length := by simp [cellsOf, hs.x16]
  obtain ⟨cs, hcs⟩ : ∃ cs, cs = cellsOf s := ⟨_, rfl⟩
  obtain ⟨ps, hps⟩ : ∃ ps, ps = rplaces q rr := ⟨_, rfl⟩
  unfold PlacesPost at HE
  unfold RAllPost
  rw [← hcs] at HA hlenc ⊢
  rw [← hps] at HA HE
  obtain ⟨ws, hws⟩ : ∃ ws, ws = onW cs := ⟨_, rfl⟩
  rw [← hws]
  have HWS := Kp.mk hws
  clear hs hcs hps hws
  go_enter Try.func22, Try.ntmps22
  go_wp2_with (go_at_call 42; refine HE.out.mono ?_; rintro e w' ⟨v, rfl, hl⟩; obtain ⟨Av, cv, hv, hcv, _, hs0, hs1⟩ := hl.1.shape; subst hv)
  rw [HA.out.1, hlenc] at hcv
  rw [HA.out.1, hlenc]
  have HL := Kp.mk hl
  rw [HA.out.1, hlenc] at HL
  have HA2 := Kp.mk (HA.out.below hl.2.1)
  clear hl
  obtain ⟨gv, rfl⟩ : ∃ g, Av = some ⟨g, 0, none⟩ := by
    cases Av with
    | none => have h1 := (hs0 rfl).1; have h2 := HA.out.1; rw [h1, hlenc] at h2; simp at h2; omega
    | some x => obtain ⟨g, rfl⟩ := hs1 x rfl; exact ⟨g, rfl⟩
  clear hs0 hs1
  obtain ⟨m, hm⟩ : ∃ m, m = 16 + (allY s.fs).length := ⟨_, rfl⟩
  rw [← hm] at hlenc HL hcv ⊢
  have hmb : m ≤ 900016 := by omega
  clear hm
  have HLN := Kp.mk hlenc
  clear hlenc
  go_wp2
  go_loopw [3, 5] (fun l i wr => ∃ (j N : Nat) (A : Option Addr) (c : Nat), j ≤ m ∧ i = .int .i64 j ∧ l = .slice A N c ∧ Kp (N = (onW (cs.take j)).length) ∧ Kp (Own wr 29 eU64 l (onW (cs.take j))) ∧ Kp (Fresh w' l) ∧ Kp (Below w'.heap.size w' wr) ∧ Kp (Own wr 80 ePt (.slice (some ⟨gv, 0, none⟩) m cv) ps)) (fun _ i _ => m - (intOf i).toNat)
  case atStart => exact ⟨0, 0, none, 0, Nat.zero_le _, rfl, rfl, ⟨rfl⟩, ⟨Own.nil _ _ _⟩, ⟨Fresh.nil _ _ _⟩, ⟨Below.refl _ _⟩, ⟨HL.out.1⟩⟩
  case round =>
    obtain ⟨j, N, A, c, hj, rfl, rfl, hN, ho, hf, hb, hp⟩ := hrel
    by_cases hlt : j < m
    · have hlr : j < ps.length := by rw [HA.out.1, HLN.out]; exact hlt
      have hlc : j < cs.length := by rw [HLN.out]; exact hlt
      have hq := hp.out.elem j 0 hlr (by decide)
      obtain ⟨⟨b, o⟩, hbo⟩ : ∃ x, x = ps[j] := ⟨_, rfl⟩
      obtain ⟨c0, hc0⟩ : ∃ x, x = cs[j] := ⟨_, rfl⟩
      rw [← hbo] at hq
      have hq' : wr.cell? ⟨gv, j, none⟩ = some (.pointer (some ⟨b, o, none⟩)) := by simpa [ePt] using hq
      obtain ⟨q1, q2, q3, q4⟩ := HA2.out.2 j b o c0 (by rw [hbo]; exact List.getElem?_eq_getElem hlr) (by rw [hc0]; exact List.getElem?_eq_getElem hlc)
      have hcon := (hb.out.cell (p := ⟨b, o, none⟩) q4).trans q1
      have hcw := (hb.out.cell (p := ⟨b, o + 1, none⟩) q4).trans q2
      have hst := onW_take cs j hlc
      rw [← hc0] at hst
      have HST := Kp.mk hst
      have hlen : (onW (cs.take j)).length = N := hN.out.symm
      have hNb : N ≤ j := by rw [← hlen]; exact Nat.le_trans (onW_le _) (by simp; omega)
      have j0 : (0 : Int) ≤ (j : Int) := by omega
      have j1 : (j : Int) < (m : Int) := by omega
      have ho' : Own wr 29 eU64 (.slice A N c) (onW (cs.take j)) := ho.out
      have HCON := Kp.mk hcon
      clear hq hbo hc0 q1 q2 q3 q4 hst hcon
      cases hon : c0.on
      · have hcon := HCON.out
        rw [hon] at hcon
        go_wp2
        go_roundw
        case rel => exact ⟨j + 1, N, A, c, by omega, by go_num, rfl, ⟨by rw [HST.out, hon]; simpa using hN.out⟩, ⟨by rw [HST.out, hon]; simpa using ho.out⟩, hf, hb, hp⟩
        case measure => simp [intOf]; omega
      · have hcon := HCON.out
        rw [hon] at hcon
        go_wp2_with (at_builtin; refine app1_ev T23 c0.w rfl _ _ rfl ho' rfl rfl rfl (by simp) rfl (by rw [hlen]; omega) (by rw [hlen]; omega) ?_; intro A' n' c' w1 a0 a1 a2 a3)
        go_roundw
        case rel => exact ⟨j + 1, n', A', c', by omega, by go_num, rfl, ⟨by rw [HST.out, hon]; simpa using a0.out⟩, ⟨by rw [HST.out, hon]; exact a1⟩, ⟨hf.out.app hb.out.size a3⟩, ⟨chg_below hb.out a2 (fun g hg => hf.out g hg) hb.out.size⟩, ⟨hp.out.frame a2 (fun g hg hF => by
          obtain ⟨cur, hcur⟩ := hp.out.blk' hg
          exact ho.out.ne hcur (by decide) hF)⟩⟩
        case measure => simp [intOf]; omega
    · have htk : cs.take j = cs := List.take_of_length_le (by rw [HLN.out]; omega)
      rw [htk, ← HWS.out] at ho hN
      have hjd : decide ((j : Int) < (m : Int)) = false := by simp; omega
      have hjf : ¬ ((j : Int) < (m : Int)) := by omega
      clear htk
      go_wp2
      go_ret
      have h1 := hN.out
      subst h1
      exact ⟨A, c, rfl, ho.out, hf.out.up HL.out.2.1.size, HL.out.2.1.trans (hb.out.mono HL.out.2.1.size)⟩
end Go.Proofs.Ythdfmopbihpcoaa
