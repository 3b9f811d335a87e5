/- What awake of package links's law answers: true; no condition. -/
import Derived.Test.YtlbbheopoflmjaaEn
import Derived.Test.YtlbbheopoflmjaaT
import Derived.Test.YtlbbheopoflmjaaOs
namespace Go.Proofs.Ytlbbheopoflmjaa
open Go.RowKit

theorem Own.bd' {w : World} {g n c : Nat} {L : List Bd} (h : Own w 48 eBd (.slice (some ⟨g, 0, none⟩) n c) L) (k : Nat) (hk : k < L.length) :
    w.cell? ⟨g, k * 3, none⟩ = some (.int .i64 L[k].a) ∧ w.cell? ⟨g, k * 3 + 1, none⟩ = some (.int .i64 L[k].b) ∧ w.cell? ⟨g, k * 3 + 2, none⟩ = some (.int .i64 L[k].r) := by
  refine ⟨?_, ?_, ?_⟩
  · have h1 := h.elem k 0 hk (by decide); simpa [eBd] using h1
  · have h1 := h.elem k 1 hk (by decide); simpa [eBd] using h1
  · have h1 := h.elem k 2 hk (by decide); simpa [eBd] using h1
def aw1 : List NB := [(1, ⟨3, 5, 0⟩)]
def aw2 : List NB := [(1, ⟨3, 5, 0⟩), (2, ⟨3, 5, 9⟩)]
theorem awL : linkE [] 5 3 = 0 := by decide
theorem awLN : linkN [] 0 5 3 = aw1 := by decide
theorem awW : watchE aw1 9 3 5 = 0 := by decide
theorem awWN : watchN aw1 1 9 3 5 = aw2 := by decide
theorem awT : told 5 (aw2.map (·.2)) = [⟨3, 5, 0⟩, ⟨3, 5, 9⟩] := by decide
theorem awE : leftN 5 aw2 = [] := by decide
theorem awP : decide (IsPid 5) = true := by decide
set_option maxRecDepth 100000 in
set_option maxHeartbeats 4000000 in
theorem awake_any (w : World) : Calls Try.prog 16 #[] w fun e w' => e = .returned (.bool true) ∧ Below w.heap.size w w' := by
  go_enter Try.func16, Try.ntmps16
  go_wp2_with fail
  refine (new_any w).mono ?_
  rintro e w1 ⟨p, bm, lm, rm, rfl, h1, hf, hb1⟩
  have H1 := Kp.mk h1
  have HB1 := Kp.mk hb1
  have HF := Kp.mk hf
  clear h1 hf hb1
  go_wp2_with fail
  refine (link_any _ p bm lm rm [] 0 5 3 H1.out (by decide)).mono ?_
  rintro e w2 ⟨rfl, c2, h2⟩
  have H2 : Kp (IsG w2 p bm lm rm aw1 1) := ⟨by
    rcases h2 with ⟨e, _⟩ | ⟨_, h⟩
    · exact absurd awL e
    · rw [awLN] at h; exact h⟩
  have HB2 := Kp.mk (chg_below HB1.out c2 HF.out HB1.out.size)
  rw [awL]
  clear c2 h2
  go_wp2_with fail
  refine (watch_any _ p bm lm rm aw1 1 9 3 5 H2.out (by decide)).mono ?_
  rintro e w3 ⟨rfl, c3, h3⟩
  have H3 : Kp (IsG w3 p bm lm rm aw2 2) := ⟨by
    rcases h3 with ⟨e, _⟩ | ⟨_, h⟩
    · exact absurd awW e
    · rw [awWN] at h; exact h⟩
  have HB3 := Kp.mk (chg_below HB2.out c3 HF.out HB2.out.size)
  rw [awW]
  clear c3 h3
  go_wp2_with fail
  refine (end_any sortC _ p bm lm rm aw2 2 5 H3.out (by decide) awP).mono ?_
  rintro e w4 ⟨v, rfl, ho, hf, hc, hg⟩
  rw [awT] at ho
  rw [awE] at hg
  obtain ⟨A, c, hv, _, _, h0, hs1⟩ := ho.shape
  subst hv
  obtain ⟨g, rfl⟩ : ∃ g, A = some ⟨g, 0, none⟩ := by
    cases A with
    | none => have := (h0 rfl).1; cases this
    | some y => obtain ⟨g, rfl⟩ := hs1 y rfl; exact ⟨g, rfl⟩
  obtain ⟨q0, q1, q2⟩ := ho.bd' 0 (by decide)
  obtain ⟨q3, q4, q5⟩ := ho.bd' 1 (by decide)
  simp only [List.getElem_cons_zero, List.getElem_cons_succ, Nat.zero_mul, Nat.zero_add, Nat.one_mul] at q0 q1 q2 q3 q4 q5
  have HB4 := Kp.mk (chg_below HB3.out hc HF.out HB3.out.size)
  have HL := Kp.mk (len_any w4 p bm lm rm [] 2 hg)
  have h2 : ([⟨3, 5, 0⟩, ⟨3, 5, 9⟩] : List Bd).length = 2 := rfl
  rw [h2]
  clear ho hf hc hg h0 hs1 h2
  go_wp2_with (go_at_call 22; refine HL.out.mono ?_; rintro e w5 ⟨rfl, rfl⟩)
  go_ret
  exact ⟨rfl, HB4.out⟩
end Go.Proofs.Ytlbbheopoflmjaa
