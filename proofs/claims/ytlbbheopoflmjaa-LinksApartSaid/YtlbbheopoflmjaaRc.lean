/- The document's out of package links; bounds stand in the statement. -/
import Derived.Test.YtlbbheopoflmjaaRb
namespace Go.Proofs.Ytlbbheopoflmjaa
open Go.RowKit

section
variable {α : Type} {w : World} {E : El α} {A : Option Addr} {c c' : Nat} {l : List α}
theorem El.flat_take (E : El α) (l : List α) (i : Nat) (j : Nat) (u : Value) (h : (E.flat (l.take i))[j]? = some u) : (E.flat l)[j]? = some u := by
  have e : E.flat l = E.flat (l.take i) ++ E.flat (l.drop i) := by rw [← E.flat_append, List.take_append_drop]
  rw [e, List.getElem?_append_left (List.getElem?_eq_some_iff.1 h).1]
  exact h
theorem El.flat_drop (E : El α) (l : List α) (i : Nat) (hi : i ≤ l.length) (j : Nat) : (E.flat (l.drop i))[j]? = (E.flat l)[i * E.k + j]? := by
  have e : E.flat l = E.flat (l.take i) ++ E.flat (l.drop i) := by rw [← E.flat_append, List.take_append_drop]
  have hl : (E.flat (l.take i)).length = i * E.k := by rw [E.flat_length, List.length_take, Nat.min_eq_left hi]
  rw [e, List.getElem?_append_right (by omega), hl, Nat.add_sub_cancel_left]
theorem Src.take (h : Src w E A c l) (i : Nat) : Src w E A c (l.take i) :=
  ⟨fun ad ha j u hu => h.cell ad ha j u (E.flat_take l i j u hu), fun ha => by rw [(h.none ha).1]; exact ⟨List.take_nil, (h.none ha).2⟩⟩
theorem Src.drop {g o : Nat} (h : Src w E (some ⟨g, o, Option.none⟩) c l) (i : Nat) (hi : i ≤ l.length) : Src w E (some ⟨g, o + i * E.k, Option.none⟩) c' (l.drop i) :=
  ⟨fun ad ha j u hu => by
    cases ha
    rw [E.flat_drop l i hi] at hu
    have := h.cell _ rfl _ u hu
    rw [Addr.add_lit] at this ⊢
    rw [Nat.add_assoc]
    exact this, fun ha => by cases ha⟩
theorem Src.empty {ad : Addr} : Src w E (some ad) c ([] : List α) := ⟨fun _ _ j u hu => by simp [El.flat] at hu, fun ha => by cases ha⟩
end
def FD (q : Nat) (lv : Value) : Nat → Prop := fun g => g = q ∨ lv.ownBlock = some g
section
variable {w w' : World} {q : Nat} {lv : Value} {L : List Bd}
theorem IsD.lt (h : IsD w q lv L) : q < w.heap.size := lt_of_block h.blk
theorem IsD.ne (h : IsD w q lv L) : lv.ownBlock ≠ some q := h.own.ne h.blk (by decide)
theorem IsD.sh (h : IsD w q lv L) : ∃ A c, lv = .slice A L.length c ∧ w.cell? ⟨q, 0, none⟩ = some (.slice A L.length c) := by
  obtain ⟨A, c, hv, _⟩ := h.own.shape
  exact ⟨A, c, hv, by rw [← hv]; exact h.c0⟩
theorem IsD.frame (h : IsD w q lv L) {F : Nat → Prop} (hc : Chg F w w') (hF : ∀ g, FD q lv g → ¬ F g) : IsD w' q lv L := ⟨hc.at h.blk (hF _ (.inl rfl)), h.own.frame hc (fun _ hg => hF _ (.inr hg))⟩
end
def DOutPost (w : World) (q : Nat) (lv : Value) (l' : List Bd) (e : Ending) (w' : World) : Prop :=
  (∃ v, e = .returned v) ∧ ∃ lv', IsD w' q lv' l' ∧ Fresh w lv' ∧ Chg (FD q lv) w w'
set_option maxRecDepth 100000 in
set_option maxHeartbeats 2000000 in
theorem dout_any (w : World) (q : Nat) (lv : Value) (l : List Bd) (i : Nat) (h : IsD w q lv l) (hi : i < l.length) (hn : l.length ≤ 1000000) :
    Calls Try.prog 52 #[.pointer (some ⟨q, 0, none⟩), .int .i64 i] w (DOutPost w q lv (l.take i ++ l.drop (i + 1))) := by
  obtain ⟨A, c, hv, q0⟩ := h.sh
  have ho := h.own
  rw [hv] at ho
  obtain ⟨g, rfl⟩ : ∃ g, A = some ⟨g, 0, none⟩ := by
    obtain ⟨A2, c2, hv2, _, _, hs0, hs1⟩ := ho.shape
    have ea : A = A2 := by injection hv2
    cases hA : A2 with
    | none => have h1 := (hs0 hA).1; rw [h1] at hi; simp at hi
    | some x => obtain ⟨g, rfl⟩ := hs1 x hA; exact ⟨g, by rw [ea, hA]⟩
  have hs := ho.src rfl
  obtain ⟨_, c2, hv2, hc, _⟩ := ho.shape
  obtain rfl : c = c2 := by injection hv2
  have src1 := hs.take i
  have hown0 : Own w 48 eBd (.slice none 0 0) [] := Own.nil _ _ _
  have hl1 : (l.take i).length = i := by rw [List.length_take]; omega
  have k0 : (0 : Int) ≤ (i : Int) := by omega
  have k1 : (i : Int) ≤ (c : Int) := by omega
  have k2 : i ≤ c := by omega
  have k3 : (i : Int) + 1 ≤ (l.length : Int) := by omega
  have k4 : i + 1 ≤ l.length := by omega
  have hpl := h.lt
  have HH := Kp.mk h
  have HV := Kp.mk hv
  have HS := Kp.mk hs
  have HNE := Kp.mk h.ne
  clear h hv ho hv2 hs
  by_cases hcap : c = i + 1
  · have hdr : Kp (l.drop (i + 1) = []) := ⟨List.drop_eq_nil_of_le (by omega)⟩
    have hll : l.length = i + 1 := by omega
    rw [hdr.out]
    subst hcap
    rw [hll] at q0
    go_enter Try.func52, Try.ntmps52
    go_upto_region 2 with (at_builtin; refine app_ev T27 rfl _ _ rfl hown0 rfl src1 hl1.symm rfl (by simp only [List.length_nil]; omega) (by simp only [List.length_nil]; omega) ?_; intro A1 n1 c1 w1 a0 a1 a2 a3)
    obtain rfl : n1 = i := by have h1 := a0.out; rw [hl1] at h1; simpa using h1
    rw [List.nil_append] at a1
    have hb1 : Below w.heap.size w w1 := a2.below_all (fun k hk => by cases hk)
    have H1 := Kp.mk (HH.out.below hb1)
    have HB1 := Kp.mk hb1
    have q1 : w1.cell? ⟨q, 0, none⟩ = some (.slice (some ⟨g, 0, none⟩) (n1 + 1) (n1 + 1)) := by have h9 := H1.out.c0; rw [HV.out, hll] at h9; exact h9
    have HS1 := HS.out.below hb1
    have HF : Kp (Fresh w (.slice A1 n1 c1)) := ⟨fun g hg => by
      rcases a3 with h | ⟨g', h, h2⟩
      · rw [h] at hg; cases hg
      · rw [h] at hg; cases hg; exact h2⟩
    have src2 : Src w1 eBd (some ⟨g, 0, none⟩) 0 ([] : List Bd) := Src.empty
    clear hown0 src1 a0 a2 a3 hb1 q0 HS1
    go_upto_region 3 with (at_builtin; refine app_ev T27 rfl _ _ rfl a1 rfl src2 rfl rfl (by rw [hl1, List.length_nil]; omega) (by rw [hl1, List.length_nil]; omega) ?_; intro A2 n2 c2 w2 b0 b1 b2 b3)
    have B2 := b2.at H1.out.blk (fun h => by have h1 := HF.out q h; omega)
    have q2 := blk_c B2 0
    have z2 := blk_f B2 0
    have l2 := lt_of_block B2
    have H2 := IsD.set B2 b1
    have HF2 : Kp (Fresh w (.slice A2 n2 c2)) := ⟨HF.out.app HB1.out.size b3⟩
    have HC : Kp (Chg (FD q lv) w w2) := ⟨(Chg.of_below HB1.out _).trans b2 (fun n hn hF => by have h1 := HF.out n hF; omega)⟩
    have HH2 := Kp.mk H2
    clear b0 b1 b2 b3 H2 a1
    go_wp2
    go_end0
    exact ⟨⟨_, rfl⟩, _, HH2.out, HF2.out, HC.out.set (p := ⟨q, 0, none⟩) (.inl (.inl rfl)) _⟩
  · have k5 : ¬ ((c : Int) = (i : Int) + 1) := by omega
    have k6 : ¬ (i + 1 = c) := by omega
    have hl2 : (l.drop (i + 1)).length = l.length - (i + 1) := List.length_drop
    have k7 : (l.length : Int) ≤ (c : Int) := by omega
    have k8 : i + 1 ≤ c := by omega
    have k9 : (i : Int) + 1 ≤ (c : Int) := by omega
    go_enter Try.func52, Try.ntmps52
    go_upto_region 2 with (at_builtin; refine app_ev T27 rfl _ _ rfl hown0 rfl src1 hl1.symm rfl (by simp only [List.length_nil]; omega) (by simp only [List.length_nil]; omega) ?_; intro A1 n1 c1 w1 a0 a1 a2 a3)
    obtain rfl : n1 = i := by have h1 := a0.out; rw [hl1] at h1; simpa using h1
    rw [List.nil_append] at a1
    have hb1 : Below w.heap.size w w1 := a2.below_all (fun k hk => by cases hk)
    have H1 := Kp.mk (HH.out.below hb1)
    have HB1 := Kp.mk hb1
    have q1 : w1.cell? ⟨q, 0, none⟩ = some (.slice (some ⟨g, 0, none⟩) l.length c) := by rw [← HV.out]; exact H1.out.c0
    have HS1 := HS.out.below hb1
    have HF : Kp (Fresh w (.slice A1 n1 c1)) := ⟨fun g hg => by
      rcases a3 with h | ⟨g', h, h2⟩
      · rw [h] at hg; cases hg
      · rw [h] at hg; cases hg; exact h2⟩
    have src2 : Src w1 eBd (some ⟨g, 0 + (n1 + 1) * 3, none⟩) (c - (n1 + 1)) (l.drop (n1 + 1)) := HS1.drop (n1 + 1) (by omega)
    rw [Nat.zero_add] at src2
    clear hown0 src1 a0 a2 a3 hb1 q0 HS1
    go_upto_region 3 with (at_builtin; refine app_ev T27 rfl _ _ rfl a1 rfl src2 hl2.symm rfl (by rw [hl1, hl2]; omega) (by rw [hl1, hl2]; omega) ?_; intro A2 n2 c2 w2 b0 b1 b2 b3)
    have B2 := b2.at H1.out.blk (fun h => by have h1 := HF.out q h; omega)
    have q2 := blk_c B2 0
    have z2 := blk_f B2 0
    have l2 := lt_of_block B2
    have H2 := IsD.set B2 b1
    have HF2 : Kp (Fresh w (.slice A2 n2 c2)) := ⟨HF.out.app HB1.out.size b3⟩
    have HC : Kp (Chg (FD q lv) w w2) := ⟨(Chg.of_below HB1.out _).trans b2 (fun n hn hF => by have h1 := HF.out n hF; omega)⟩
    have HH2 := Kp.mk H2
    clear b0 b1 b2 b3 H2 a1
    go_wp2
    go_end0
    exact ⟨⟨_, rfl⟩, _, HH2.out, HF2.out, HC.out.set (p := ⟨q, 0, none⟩) (.inl (.inl rfl)) _⟩
end Go.Proofs.Ytlbbheopoflmjaa
