/- What awake of package timer's law answers; no condition. -/
import Derived.Test.YtobgabjoehjpcaaLw
namespace Go.Proofs.Ytobgabjoehjpcaa
open Go.RowKit

def ms1 : MS := (⟨[], [], 0⟩ : MS).set 5 10
def ms2 : MS := ms1.set 6 3
def ms3 : MS := ms2.set 7 10
theorem MS.set_0 {s : MS} {ref dl : Int} (h : setE s.l ref dl = 0) : s.set ref dl = ⟨setL s.l s.tn ref dl, s.ts ++ [⟨ref, dl, s.tn + 1⟩], s.tn + 1⟩ := by unfold MS.set; rw [if_pos h]
theorem a1 : setE ([] : List Ent) 5 10 = 0 := by decide
theorem b1 : ms1.ts = [⟨5, 10, 1⟩] ∧ ms1.tn = 1 ∧ Ok ms1 := by
  refine ⟨?_, ?_, Ok.nil.set _ _⟩
  · unfold ms1; rw [MS.set_0 a1]; rfl
  · unfold ms1; rw [MS.set_0 a1]; rfl
theorem a2 : setE ms1.l 6 3 = 0 := by rw [setE_perm b1.2.2.sim.perm, b1.1]; decide
theorem b2 : ms2.ts = [⟨5, 10, 1⟩, ⟨6, 3, 2⟩] ∧ ms2.tn = 2 ∧ Ok ms2 := by
  refine ⟨?_, ?_, b1.2.2.set _ _⟩
  · unfold ms2; rw [MS.set_0 a2, b1.1, b1.2.1]; rfl
  · unfold ms2; rw [MS.set_0 a2, b1.2.1]; rfl
theorem a3 : setE ms2.l 7 10 = 0 := by rw [setE_perm b2.2.2.sim.perm, b2.1]; decide
theorem b3 : ms3.ts = [⟨5, 10, 1⟩, ⟨6, 3, 2⟩, ⟨7, 10, 3⟩] ∧ ms3.tn = 3 ∧ Ok ms3 := by
  refine ⟨?_, ?_, b2.2.2.set _ _⟩
  · unfold ms3; rw [MS.set_0 a3, b2.1, b2.2.1]; rfl
  · unfold ms3; rw [MS.set_0 a3, b2.2.1]; rfl
theorem d9 : (dueL ms3.l 9).1 = [⟨6, 3, 2⟩] ∧ Sim (dueL ms3.l 9).2 [⟨5, 10, 1⟩, ⟨7, 10, 3⟩] ms3.tn := by
  obtain ⟨h1, h2, h3⟩ := b3.2.2.sim.due 9
  rw [b3.1] at h1 h3
  exact ⟨srt_eq h1 h2 (List.pairwise_singleton _ _), h3⟩
theorem d10 : (dueL (dueL ms3.l 9).2 10).1 = [⟨5, 10, 1⟩, ⟨7, 10, 3⟩] := by
  obtain ⟨h1, h2, _⟩ := d9.2.due 10
  refine srt_eq h1 h2 ?_
  refine List.pairwise_cons.2 ⟨fun e he => ?_, List.pairwise_singleton _ _⟩
  simp at he
  subst he
  exact .inr ⟨rfl, by decide⟩
set_option maxRecDepth 100000 in
set_option maxHeartbeats 4000000 in
theorem awake_any (w : World) : Calls Try.prog 12 #[] w fun e w' => e = .returned (.bool true) ∧ Below w.heap.size w w' := by
  go_enter Try.func12, Try.ntmps12
  go_wp2_with fail
  refine (new_any w).mono ?_
  rintro e w1 ⟨p, hp, rfl, h1, hb1⟩
  have H1 := Kp.mk h1
  have HB1 := Kp.mk hb1
  have M1 := Kp.mk (m_set w1 p _ ⟨[], [], 0⟩ 5 10 h1 Ok.nil (by decide))
  rw [show setE (MS.mk [] [] 0).l 5 10 = 0 from a1] at M1
  have HF : Kp (∀ g, FW p (.slice none 0 0) g → w.heap.size ≤ g) := ⟨fun g hg => by rcases hg with rfl | hg; exact hp; cases hg⟩
  clear h1 hb1
  go_wp2_with fail
  refine M1.out.mono ?_
  rintro e w2 ⟨rfl, qv2, h2, s2, c2⟩
  have H2 : Kp (IsWh w2 p qv2 ms1.l ms1.tn) := ⟨h2⟩
  have HB2 : Kp (Below w.heap.size w w2) := ⟨chg_below HB1.out c2 HF.out HB1.out.size⟩
  have HF2 : Kp (∀ g, FW p qv2 g → w.heap.size ≤ g) := ⟨fun g hg => by
    rcases hg with rfl | hg
    · exact hp
    · rcases s2 with e | ⟨g', e, e2⟩
      · exact HF.out g (.inr (e ▸ hg))
      · rw [e] at hg; cases hg; have := HB1.out.size; omega⟩
  have M2 := Kp.mk (m_set w2 p qv2 ms1 6 3 h2 b1.2.2 (by rw [b1.2.1]; decide))
  rw [a2] at M2
  clear h2 s2 c2 M1 HF H1
  go_wp2_with fail
  refine M2.out.mono ?_
  rintro e w3 ⟨rfl, qv3, h3, s3, c3⟩
  have HB3 : Kp (Below w.heap.size w w3) := ⟨chg_below HB2.out c3 HF2.out HB2.out.size⟩
  have HF3 : Kp (∀ g, FW p qv3 g → w.heap.size ≤ g) := ⟨fun g hg => by
    rcases hg with rfl | hg
    · exact hp
    · rcases s3 with e | ⟨g', e, e2⟩
      · exact HF2.out g (.inr (e ▸ hg))
      · rw [e] at hg; cases hg; have := HB2.out.size; omega⟩
  have M3 := Kp.mk (m_set w3 p qv3 ms2 7 10 h3 b2.2.2 (by rw [b2.2.1]; decide))
  rw [a3] at M3
  clear h3 s3 c3 M2 H2 HF2
  go_wp2_with fail
  refine M3.out.mono ?_
  rintro e w4 ⟨rfl, qv4, h4, s4, c4⟩
  have HB4 : Kp (Below w.heap.size w w4) := ⟨chg_below HB3.out c4 HF3.out HB3.out.size⟩
  have HF4 : Kp (∀ g, FW p qv4 g → w.heap.size ≤ g) := ⟨fun g hg => by
    rcases hg with rfl | hg
    · exact hp
    · rcases s4 with e | ⟨g', e, e2⟩
      · exact HF3.out g (.inr (e ▸ hg))
      · rw [e] at hg; cases hg; have := HB3.out.size; omega⟩
  have M4 := Kp.mk (m_due w4 p qv4 ms3.l ms3.tn 9 h4 (by have := b3.2.2.len; omega) (by decide) (by decide))
  rw [d9.1] at M4
  clear h4 s4 c4 M3 HF3
  go_wp2_with fail
  refine M4.out.mono ?_
  rintro e w5 ⟨A5, c5, qv5, rfl, o5, f5, h5, q5, ch5⟩
  have HB5 : Kp (Below w.heap.size w w5) := ⟨chg_below HB4.out ch5 HF4.out HB4.out.size⟩
  have HF5 : Kp (∀ g, FW p qv5 g → w.heap.size ≤ g) := ⟨fun g hg => HF4.out g (by rcases hg with h | h; exact .inl h; exact .inr (by rw [← q5]; exact h))⟩
  have M5 := Kp.mk (m_due w5 p qv5 _ ms3.tn 10 h5 (by have h1 := (due_le _ ms3.l 9 rfl).1; have := b3.2.2.len; omega) (by decide) (by decide))
  rw [d10] at M5
  have O5 := Kp.mk o5
  have H5 := Kp.mk h5
  clear o5 f5 h5 q5 ch5 M4 HF4
  go_wp2_with fail
  refine M5.out.mono ?_
  rintro e w6 ⟨A6, c6, qv6, rfl, o6, f6, h6, q6, ch6⟩
  have HB6 : Kp (Below w.heap.size w w6) := ⟨chg_below HB5.out ch6 HF5.out HB5.out.size⟩
  have O5' := Kp.mk (O5.out.wh H5.out ch6)
  have O6 := Kp.mk o6
  have e10 : Kp (addV 1152921504606846975 5 = 1152921504606846976 ∧ addE 1152921504606846975 5 = 0) := ⟨by unfold addV addE; constructor <;> rfl⟩
  have MA := Kp.mk (add_any w6 1152921504606846975 5)
  unfold AddPost at MA
  rw [e10.out.1, e10.out.2] at MA
  clear o6 f6 h6 q6 ch6 M5 O5 H5
  go_wp2_with fail
  refine MA.out.mono ?_
  rintro e w7 ⟨rfl, rfl⟩
  clear MA
  obtain ⟨g5, rfl⟩ : ∃ g, A5 = some ⟨g, 0, none⟩ := by
    obtain ⟨A2, c2, hv2, _, _, hs0, hs1⟩ := O5'.out.shape
    have ea : A5 = A2 := by injection hv2
    cases hA : A2 with
    | none => have h1 := (hs0 hA).1; cases h1
    | some x => obtain ⟨g, rfl⟩ := hs1 x hA; exact ⟨g, by rw [ea, hA]⟩
  obtain ⟨g6, rfl⟩ : ∃ g, A6 = some ⟨g, 0, none⟩ := by
    obtain ⟨A2, c2, hv2, _, _, hs0, hs1⟩ := O6.out.shape
    have ea : A6 = A2 := by injection hv2
    cases hA : A2 with
    | none => have h1 := (hs0 hA).1; cases h1
    | some x => obtain ⟨g, rfl⟩ := hs1 x hA; exact ⟨g, by rw [ea, hA]⟩
  have z0 : w6.cell? ⟨g5, 0, none⟩ = some (.int .i64 6) := O5'.out.elem 0 0 (by decide) (by decide)
  have y0 : w6.cell? ⟨g6, 0, none⟩ = some (.int .i64 5) := O6.out.elem 0 0 (by decide) (by decide)
  have y1 : w6.cell? ⟨g6, 1, none⟩ = some (.int .i64 7) := O6.out.elem 1 0 (by decide) (by decide)
  go_wp2
  go_ret
  exact ⟨rfl, HB6.out⟩
end Go.Proofs.Ytobgabjoehjpcaa
