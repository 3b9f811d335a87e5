/- What Copy of package frame answers; for at most 1000 frames and 900000 slots. -/
import Derived.Test.YthdfmopbihpcoaaX
import Derived.Deep.MidRow
namespace Go.Proofs.Ythdfmopbihpcoaa
open Go.RowKit

theorem sixteen (l : List Cl) (h : l.length = 16) : ∃ a0 a1 a2 a3 a4 a5 a6 a7 b0 b1 b2 b3 b4 b5 b6 b7, l = [a0, a1, a2, a3, a4, a5, a6, a7, b0, b1, b2, b3, b4, b5, b6, b7] := by
  match l, h with
  | [a0, a1, a2, a3, a4, a5, a6, a7, b0, b1, b2, b3, b4, b5, b6, b7], _ => exact ⟨_, _, _, _, _, _, _, _, _, _, _, _, _, _, _, _, rfl⟩
def CopyPost (w : World) (s : StM) (e : Ending) (w' : World) : Prop :=
  ∃ c fv' sv' rs', e = .returned (.pointer (some ⟨c, 0, none⟩)) ∧ w.heap.size ≤ c ∧ IsSt w' c fv' sv' s rs' ∧ Fresh w fv' ∧ Fresh w sv' ∧ Below w.heap.size w w'
theorem IsSt.range {w : World} {p : Nat} {fv sv : Value} {s : StM} {rs : List Rec} (h : IsSt w p fv sv s rs) : w.rangeAt p 0 (eCl.flat s.x) := by
  intro j v hv
  rw [Nat.zero_add, blk_c h.blk]
  unfold StC
  have hj := (List.getElem?_eq_some_iff.1 hv).1
  rw [List.getElem?_toArray, List.getElem?_append_left hj]
  exact hv
set_option maxHeartbeats 2000000 in
theorem copy_any (w : World) (p : Nat) (fv sv : Value) (s : StM) (rs : List Rec) (hs : IsSt w p fv sv s rs) (hn : s.fs.length ≤ 1000) (hny : (allY s.fs).length ≤ 900000) :
    Calls Try.prog 21 #[.pointer (some ⟨p, 0, none⟩)] w (CopyPost w s) := by
  obtain ⟨a0, a1, a2, a3, a4, a5, a6, a7, b0, b1, b2, b3, b4, b5, b6, b7, hx⟩ := sixteen s.x hs.x16
  have hr := hs.range
  rw [hx] at hr
  have hr2 : w.rangeAt p 0 [.int .u64 a0.w, .bool a0.on, .int .u64 a1.w, .bool a1.on, .int .u64 a2.w, .bool a2.on, .int .u64 a3.w, .bool a3.on, .int .u64 a4.w, .bool a4.on, .int .u64 a5.w, .bool a5.on, .int .u64 a6.w, .bool a6.on, .int .u64 a7.w, .bool a7.on, .int .u64 b0.w, .bool b0.on, .int .u64 b1.w, .bool b1.on, .int .u64 b2.w, .bool b2.on, .int .u64 b3.w, .bool b3.on, .int .u64 b4.w, .bool b4.on, .int .u64 b5.w, .bool b5.on, .int .u64 b6.w, .bool b6.on, .int .u64 b7.w, .bool b7.on] := hr
  have HS := Kp.mk hs
  have HX := Kp.mk hx
  have HR := Kp.mk hr2
  have hpl := lt_of_block hs.blk
  clear hs hx hr hr2
  go_enter Try.func21, Try.ntmps21
  go_upto_region 4 with (refine wpList_load_mid rfl 58 _ rfl p 0 rfl _ _ HR.out Try.underlying58 rfl (by kernel_rfl) ?_)
  generalize hW : w.alloc _ = W
  have bW : W.heap[w.heap.size]? = some (.cells (StC s.x (.slice none 0 0) (.slice none 0 0)) 60 (0, 0)) := by rw [← hW, HX.out]; exact blk_new w _
  have hbW : Below w.heap.size w W := by rw [← hW]; exact (Below.refl _ _).alloc (Nat.le_refl _) _
  have hcW : w.heap.size < W.heap.size := lt_of_block bW
  have HCW := Kp.mk hcW
  have hsW := HS.out.below hbW
  have HBW := Kp.mk hbW
  have BW := Kp.mk bW
  have HSW := Kp.mk hsW
  obtain ⟨Af, cf, hfv, _⟩ := hsW.f.shape
  have hl : rs.length = s.fs.length := hsW.cut.1
  have HL := Kp.mk hl
  obtain ⟨As, cs, hsv, _⟩ := hsW.sl.shape
  have hpne : p ≠ w.heap.size := by omega
  have hpl2 : p < W.heap.size := by omega
  have of0 := hsW.f.drew
  rw [hfv] at of0
  have srcf : Src W.drew eRec Af cf rs := of0.src rfl
  have SRCF := Kp.mk srcf
  have q2 := hsW.cf
  have q4 := hsW.cs
  rw [hfv] at q2
  rw [hsv] at q4
  have q1 : W.cell? ⟨w.heap.size, 32, none⟩ = some (.slice none 0 0) := by rw [blk_c bW]; exact (StC_f _ _ _ HS.out.x16).1
  have z1 : W.frozen? ⟨w.heap.size, 32, none⟩ = false := blk_f bW _
  have hown : Own W.drew 54 eRec (.slice none 0 0) [] := Own.nil _ _ _
  have HFV := Kp.mk hfv
  have HSV := Kp.mk hsv
  have hrl : rs.length ≤ 1000 := by omega
  have HPN := Kp.mk hpne
  obtain ⟨c, hc⟩ : ∃ c, c = w.heap.size := ⟨_, rfl⟩
  rw [← hc] at BW hcW q1 z1 HBW HPN HCW ⊢
  have HC := Kp.mk hc
  have HW := Kp.mk hW
  clear hW hc bW hbW hsW hfv hl hsv hpne of0 srcf hpl
  go_region_law ((refine app_step T55 rfl _ _ rfl hown rfl SRCF.out rfl rfl (by simp only [List.length_nil]; omega) (by simp only [List.length_nil]; omega) ?_; intro A1 n1 c1 w1 x0 x1 x2 x3; have B1 := x2.at (w := W.drew) BW.out (fun h => by cases h); have q1' : w1.cell? ⟨c, 32, none⟩ = some (.slice none 0 0) := (by rw [blk_c B1]; exact (StC_f _ _ _ HS.out.x16).1); have z1' := blk_f B1 32; have hcl := lt_of_block B1))
  all_goals go_wp2
  all_goals
    obtain ⟨Wm, hWm⟩ : ∃ Wm, Wm = w1.setCell ⟨c, 32, none⟩ (.slice A1 n1 c1) := ⟨_, rfl⟩
    have B2 := blk_set B1 32 (.slice A1 n1 c1)
    rw [StC_setF _ _ _ _ HS.out.x16, ← hWm] at B2
    have hW2 : Below W.heap.size W w1 := Chg.below_all (F := fun g => (Value.slice none 0 0).ownBlock = some g) ⟨x2.os, x2.tape, x2.output, x2.size, x2.block⟩ (fun k hk => by cases hk)
    have hnc : (Value.slice A1 n1 c1).ownBlock ≠ some c := x1.ne B1 (by decide)
    have X1 := Kp.mk (x1.set_ne hnc (.slice A1 n1 c1) (k := 32))
    rw [← hWm, List.nil_append] at X1
    rw [← hWm]
    have HSW2 := HSW.out.below hW2
    have hcp : ¬ (c = p) := fun e => HPN.out e.symm
    have hf1 : (Value.slice A1 n1 c1).ownBlock ≠ some p := fun h => by
      have := HSW.out.blk
      rcases x3 with e | ⟨g, e, e2⟩
      · rw [e] at h; cases h
      · rw [e] at h; cases h; have := lt_of_block HSW.out.blk; simp at e2; omega
    have hfs : ∀ g, sv.ownBlock = some g → g < c := fun g hg => by rw [HC.out]; exact HS.out.sl.lt hg
    have hff : ∀ g, fv.ownBlock = some g → g < c := fun g hg => by rw [HC.out]; exact HS.out.f.lt hg
    have hch : Chg (fun g => g = c) w1 Wm := by rw [hWm]; exact chg_cell _ _ _ _
    have HSM := Kp.mk (HSW2.frame hch (fun e => hcp e.symm) (fun g hg e => by have := hff g hg; omega) (fun g hg e => by have := hfs g hg; omega))
    have q2' := HSM.out.cf
    have q4' := HSM.out.cs
    rw [HFV.out] at q2'
    rw [HSV.out] at q4'
    have hpl3 := lt_of_block HSM.out.blk
    have os0 := HSM.out.sl.drew
    rw [HSV.out] at os0
    have SRCS := Kp.mk (os0.src rfl)
    have q3 : Wm.cell? ⟨c, 33, none⟩ = some (.slice none 0 0) := by rw [blk_c B2]; exact (StC_f _ _ _ HS.out.x16).2
    have z3 : Wm.frozen? ⟨c, 33, none⟩ = false := blk_f B2 _
    have hcl3 := lt_of_block B2
    have hown2 : Own Wm.drew 57 eCl (.slice none 0 0) [] := Own.nil _ _ _
    have BM := Kp.mk B2
    have HX3 : Kp (Fresh w (.slice A1 n1 c1)) := ⟨fun g hg => by
      rcases x3 with e | ⟨g', e, e2⟩
      · rw [e] at hg; cases hg
      · rw [e] at hg; cases hg
        have h1 := HBW.out.size
        have e3 : W.heap.size ≤ g := e2
        omega⟩
    have HBM : Kp (Below w.heap.size w Wm) := ⟨by
      have h1 : Below w.heap.size w W := by rw [← HC.out]; exact HBW.out
      have h2 := h1.trans (hW2.mono h1.size)
      exact chg_below h2 hch (fun g hg => Nat.le_of_eq (by rw [hg, HC.out])) (Nat.le_trans h1.size hW2.size)⟩
    clear os0 B2 hW2 hnc HSW2 hcp hf1 hfs hff hch x0 x1 x2 x3 B1 q1' z1' hcl q1 z1 hown q2 q4 hWm hpl2
    go_region_law ((refine app_step T52 rfl _ _ rfl hown2 rfl SRCS.out rfl rfl (by simp only [List.length_nil]; omega) (by simp only [List.length_nil]; omega) ?_; intro A2 n2 c2 w2 y0 y1 y2 y3; have B1 := y2.at (w := Wm.drew) BM.out (fun h => by cases h); have q1' : w2.cell? ⟨c, 33, none⟩ = some (.slice none 0 0) := (by rw [blk_c B1]; exact (StC_f _ _ _ HS.out.x16).2); have z1' := blk_f B1 33; have hcl := lt_of_block B1))
    all_goals
      rw [List.nil_append] at y1
      have HPRE : Kp (Pre (w2.setCell ⟨c, 33, none⟩ (.slice A2 n2 c2)) c (.slice A1 n1 c1) (.slice A2 n2 c2) s rs) := ⟨by
        have hF2 := X1.out.drew.frame y2 (fun g _ hg => by cases hg)
        have b3 := blk_set B1 33 (.slice A2 n2 c2)
        rw [StC_setS _ _ _ _ HS.out.x16] at b3
        refine ⟨b3, HS.out.x16, hF2.set_ne (hF2.ne B1 (by decide)) _, y1.set_ne (y1.ne B1 (by decide)) _, HL.out, fun k r f hr hf => ?_⟩
        obtain ⟨e1, e2, e3, _⟩ := HS.out.cut.2 k r f hr hf
        exact ⟨e1, e2, fun h => by rw [e3]; unfold Fr.cl; rw [h]; rfl⟩⟩
      have HF : Kp (Fresh w (.slice A2 n2 c2)) := ⟨fun g hg => by
        rcases y3 with e | ⟨g', e, e2⟩
        · rw [e] at hg; cases hg
        · rw [e] at hg; cases hg
          have h1 := HBM.out.size
          have e3 : Wm.heap.size ≤ g := e2
          omega⟩
      have HBF : Kp (Below w.heap.size w (w2.setCell ⟨c, 33, none⟩ (.slice A2 n2 c2))) := ⟨by
        have h0 : Below w.heap.size w Wm.drew := HBM.out.drew
        have h2 := chg_below h0 y2 (fun g hg => by cases hg) h0.size
        exact h2.setCell (Nat.le_of_eq HC.out.symm) _⟩
      clear q2' q4' q3 z3 hown2 y0 y1 y2 y3 B1 q1' z1' hcl
      go_wp2_with fail
      refine (cut_any _ c _ _ s rs HPRE.out hn (by omega)).mono ?_
      rintro e w3 ⟨⟨v, rfl⟩, rs', hst, hc3⟩
      have HST := Kp.mk hst
      have HC3 := Kp.mk hc3
      clear hst hc3
      go_wp2
      go_ret
      exact ⟨c, _, _, rs', rfl, Nat.le_of_eq HC.out.symm, HST.out, HX3.out, HF.out, chg_below HBF.out HC3.out (fun g hg => HX3.out g hg) HBF.out.size⟩
end Go.Proofs.Ythdfmopbihpcoaa
