/- The program's and the document's names side by side, both made since a world; same of equal lists; what calls of a nil receiver answer; bounds stand in the statements. -/
import Derived.Test.YtmkfpaohlmejkaaDoorA
import Derived.Test.YtmkfpaohlmejkaaDoorRc
import Derived.Test.YtmkfpaohlmejkaaDoorOc
namespace Go.Proofs.YtmkfpaohlmejkaaDoor
open Go.RowKit

/-- Both sides. -/
structure Two (w0 w : World) (p a b q : Nat) (lv : Value) (ns : List En) : Prop where
  g : IsN w p a b ns
  d : IsD w q lv ns
  bel : Below w0.heap.size w0 w
  mg : ∀ g, FG p a b g → w0.heap.size ≤ g
  md : ∀ g, FD q lv g → w0.heap.size ≤ g
  ap : ∀ g, FG p a b g → ¬ FD q lv g
section
variable {w0 w w1 w2 : World} {p a b q : Nat} {lv : Value} {ns ns' : List En}
theorem IsD.lts (h : IsD w q lv ns) : ∀ g, FD q lv g → g < w.heap.size := fun _ hg => hg.elim (fun e => e ▸ h.lt) (fun e => h.own.lt e)
theorem Two.below (h : Two w0 w p a b q lv ns) (hb : Below w.heap.size w w1) : Two w0 w1 p a b q lv ns :=
  ⟨h.g.below hb, h.d.below hb, bstep h.bel h.bel.size hb, h.mg, h.md, h.ap⟩
theorem Two.dturn (h : Two w0 w p a b q lv ns) (hc : Chg (FG p a b) w w1) : IsD w1 q lv ns := h.d.frame hc fun g hg hf => h.ap g hf hg
theorem Two.step (h : Two w0 w p a b q lv ns) (hc : Chg (FG p a b) w w1) (hg : IsN w1 p a b ns') (hd : ∃ lv', IsD w2 q lv' ns' ∧ (lv' = lv ∨ Fresh w1 lv') ∧ Chg (FD q lv) w1 w2) : ∃ lv', Two w0 w2 p a b q lv' ns' := by
  obtain ⟨lv', h1, h2, h3⟩ := hd
  have hb1 : Below w0.heap.size w0 w1 := chg_below h.bel hc h.mg h.bel.size
  refine ⟨lv', ⟨hg.frame h3 h.ap, h1, chg_below hb1 h3 h.md hb1.size, h.mg, ?_, ?_⟩⟩
  · rintro g (e | e)
    · exact h.md g (.inl e)
    · rcases h2 with rfl | h2
      · exact h.md g (.inr e)
      · have := h2 g e; have := hb1.size; omega
  · rintro g hf (e | e)
    · exact h.ap g hf (.inl e)
    · rcases h2 with rfl | h2
      · exact h.ap g hf (.inr e)
      · have := h2 g e; have := h.g.g.lt g hf; have := hc.size; omega
theorem two_new (h1 : IsN w1 p a b []) (hf : ∀ g, FG p a b g → w.heap.size ≤ g) (hb : Below w.heap.size w w1) : Two w (w1.alloc (.cells #[.slice none 0 0] 28)) p a b w1.heap.size (.slice none 0 0) [] := by
  refine ⟨h1.below ((Below.refl _ _).alloc (Nat.le_refl _) _), ⟨blk_new _ _, Own.nil _ _ _⟩, bstep hb hb.size ((Below.refl _ _).alloc (Nat.le_refl _) _), hf, ?_, ?_⟩
  · rintro g (rfl | hg)
    · exact hb.size
    · cases hg
  · rintro g h (rfl | hg)
    · have := h1.g.lt _ h; omega
    · cases hg
end
theorem below_drewN {w wr : World} (h : Below w.heap.size w wr) (n : Nat) : Below w.heap.size w (wr.drewN n) := ⟨h.os, h.tape, h.output, h.size, h.block⟩
set_option maxHeartbeats 1000000 in
theorem same_eq (w : World) (l : List En) (A1 A2 : Option Addr) (c1 c2 : Nat) (ha : Src w eEn A1 c1 l) (hb : Src w eEn A2 c2 l) (hn : l.length ≤ 1000000000) :
    Calls Tryd.prog 10 #[.slice A1 l.length c1, .slice A2 l.length c2] w fun e w' => e = .returned (.bool true) ∧ Below w.heap.size w w' := by
  have hne : ((l.length : Int) != (l.length : Int)) = false := by simp
  go_enter Tryd.func10, Tryd.ntmps10
  go_wp2
  go_loopw [5] (fun i wr => ∃ k : Nat, k ≤ l.length ∧ i = .int .i64 k ∧ Below w.heap.size w wr) (fun i _ => l.length - (intOf i).toNat)
  case atStart => exact ⟨0, Nat.zero_le _, rfl, Below.refl _ _⟩
  case round =>
    obtain ⟨k, hk, rfl, hbw⟩ := hrel
    by_cases hlt : k < l.length
    · cases A1 with
      | none => have := (ha.none rfl).1; subst this; simp at hlt
      | some x =>
      cases A2 with
      | none => have := (hb.none rfl).1; subst this; simp at hlt
      | some y =>
        obtain ⟨g, o, rfl⟩ := ha.addr (by omega)
        obtain ⟨g2, o2, rfl⟩ := hb.addr (by omega)
        have H0 : wr.cell? ⟨g, o + k * 2, none⟩ = some (.string l[k].n) := by have := (ha.below hbw).elem k 0 hlt (by decide); simpa [eEn, Nat.add_assoc] using this
        have H1 : wr.cell? ⟨g, o + k * 2 + 1, none⟩ = some (.int .i64 l[k].p) := by have := (ha.below hbw).elem k 1 hlt (by decide); simpa [eEn, Nat.add_assoc] using this
        have G0 : wr.cell? ⟨g2, o2 + k * 2, none⟩ = some (.string l[k].n) := by have := (hb.below hbw).elem k 0 hlt (by decide); simpa [eEn, Nat.add_assoc] using this
        have G1 : wr.cell? ⟨g2, o2 + k * 2 + 1, none⟩ = some (.int .i64 l[k].p) := by have := (hb.below hbw).elem k 1 hlt (by decide); simpa [eEn, Nat.add_assoc] using this
        obtain ⟨x, hx⟩ : ∃ x, x = l[k] := ⟨_, rfl⟩
        rw [← hx] at H0 H1 G0 G1
        clear hx
        have k0 : (0 : Int) ≤ (k : Int) := by omega
        have k1 : (k : Int) < (l.length : Int) := by omega
        have hqa : (x.n.toList == x.n.toList) = true := by simp
        have hqb : (x.p == x.p) = true := by simp
        go_wp2_with fail
        go_quiet (fail)
        go_wp2
        go_roundw
        case rel => exact ⟨k + 1, by omega, by go_num, below_drewN hbw _⟩
        case measure => simp [intOf]; omega
    · have hle : l.length ≤ k := by omega
      clear hlt
      go_wp2
      go_ret
      exact ⟨rfl, hbw⟩
/-! ### no names -/
set_option maxHeartbeats 1000000 in
theorem len_nil (w : World) : Calls Tryd.prog 9 #[.pointer none] w fun e w' => e = .returned (.int .i64 0) ∧ w = w' := by
  go_enter Tryd.func9, Tryd.ntmps9
  go_wp2
  go_ret
  exact ⟨rfl, rfl⟩
set_option maxHeartbeats 1000000 in
theorem add_nil (w : World) (s : ByteArray) (q : Int) : Calls Tryd.prog 13 #[.pointer none, .string s, .int .i64 q] w fun e w' => e = .returned (.int .i64 2) ∧ w = w' := by
  go_enter Tryd.func13, Tryd.ntmps13
  go_wp2
  go_ret
  exact ⟨rfl, rfl⟩
set_option maxHeartbeats 1000000 in
theorem drop_nil (w : World) (s : ByteArray) : Calls Tryd.prog 14 #[.pointer none, .string s] w fun e w' => e = .returned (.int .i64 2) ∧ w = w' := by
  go_enter Tryd.func14, Tryd.ntmps14
  go_wp2
  go_ret
  exact ⟨rfl, rfl⟩
set_option maxHeartbeats 1000000 in
theorem find_nil (w : World) (s : ByteArray) : Calls Tryd.prog 16 #[.pointer none, .string s] w fun e w' => e = .returned (.tuple #[.int .i64 0, .bool false]) ∧ w = w' := by
  go_enter Tryd.func16, Tryd.ntmps16
  go_wp2
  go_ret2
  exact ⟨rfl, rfl⟩
set_option maxHeartbeats 1000000 in
theorem name_nil (w : World) (q : Int) : Calls Tryd.prog 17 #[.pointer none, .int .i64 q] w fun e w' => e = .returned (.tuple #[.string { data := #[] }, .bool false]) ∧ w = w' := by
  go_enter Tryd.func17, Tryd.ntmps17
  go_wp2
  go_ret2
  exact ⟨rfl, rfl⟩
set_option maxHeartbeats 1000000 in
theorem gone_nil (w : World) (q : Int) : Calls Tryd.prog 15 #[.pointer none, .int .i64 q] w fun e w' => e = .returned (.tuple #[.string { data := #[] }, .bool false]) ∧ w = w' := by
  go_enter Tryd.func15, Tryd.ntmps15
  go_wp2_with (go_at_call 17; refine (name_nil w q).mono ?_; rintro e w' ⟨rfl, rfl⟩)
  go_ret2
  exact ⟨rfl, rfl⟩
/-! ### known -/
def shopS : ByteArray := { data := #[115, 104, 111, 112] }
theorem knE : addE [] shopS 5 = 0 := by decide +kernel
theorem knL : addL [] shopS 5 = [⟨shopS, 5⟩] := by decide +kernel
theorem knE2 : addE [⟨shopS, 5⟩] shopS 6 = 6 := by decide +kernel
theorem knL2 : addL [⟨shopS, 5⟩] shopS 6 = [⟨shopS, 5⟩] := by decide +kernel
theorem knF : findR [⟨shopS, 5⟩] shopS = .tuple #[.int .i64 5, .bool true] := by
  unfold findR
  rw [show atN [⟨shopS, 5⟩] shopS = some ⟨shopS, 5⟩ by decide +kernel]
  rfl
set_option maxHeartbeats 1000000 in
theorem known_any (w : World) (hT : Tabs w) : Calls Tryd.prog 12 #[] w fun e w' => e = .returned (.bool true) ∧ Below w.heap.size w w' := by
  go_enter Tryd.func12, Tryd.ntmps12
  go_wp2_with fail
  refine (new_any w).mono ?_
  rintro e w1 ⟨p, a, b, rfl, h1, hf, hb1⟩
  have HF := Kp.mk hf
  have HA := Kp.mk (add_any w1 p a b [] h1 (hT.below hb1) shopS (by decide) 5 (okI 5 (by omega) (by omega)))
  rw [knE, knL] at HA
  unfold shopS at HA
  have HB1 := Kp.mk hb1
  clear h1 hf hb1
  go_wp2_with fail
  refine HA.out.mono ?_
  rintro e w2 ⟨rfl, h2, c2⟩
  have hb2 : Below w.heap.size w w2 := chg_below HB1.out c2 HF.out HB1.out.size
  have HA2 := Kp.mk (add_any w2 p a b [⟨shopS, 5⟩] h2 (hT.below hb2) shopS (by decide) 6 (okI 6 (by omega) (by omega)))
  rw [knE2, knL2] at HA2
  unfold shopS at HA2
  have HB2 := Kp.mk hb2
  clear h2 c2 hb2 HA
  go_wp2_with fail
  refine HA2.out.mono ?_
  rintro e w3 ⟨rfl, h3, c3⟩
  have HB3 : Kp (Below w.heap.size w w3) := ⟨chg_below HB2.out c3 HF.out HB2.out.size⟩
  have HA3 := Kp.mk (find_any w3 p a b [⟨shopS, 5⟩] h3 shopS (by decide))
  rw [knF] at HA3
  unfold shopS at HA3
  clear h3 c3 HA2
  go_wp2_with fail
  refine HA3.out.mono ?_
  rintro e w4 ⟨rfl, rfl⟩
  go_wp2
  go_ret
  exact ⟨rfl, HB3.out⟩
end Go.Proofs.YtmkfpaohlmejkaaDoor
