/- Lent, Same, Spoil and Kept of the document's words walked; bounds stand in the statements. -/
import Derived.Test.YtameidoaenoppaaGreatDoorTe
import Derived.Test.YtameidoaenoppaaGreatDoorLRl
import Derived.Deep.QuietTactic
import Derived.BigQuiet
import Derived.WalkSmall
namespace Go.Proofs.YtameidoaenoppaaGreatDoor
open Go.RowKit

def markS : ByteArray := { data := #[98, 101, 104, 105, 110, 100, 32, 119, 104, 97, 116, 32, 119, 97, 115, 32, 104, 97, 110, 100, 101, 100, 32, 105, 110] }
def spoiltS : ByteArray := { data := #[115, 112, 111, 105, 108, 116] }
def behindS : ByteArray := { data := #[98, 101, 104, 105, 110, 100] }
def markC : Ce := ⟨0, 0, markS⟩
def spoiltC : Ce := ⟨99, 99, spoiltS⟩
/-- A copy with a mark behind it. -/
structure LentM (w : World) (g n c : Nat) (t : List Ce) : Prop where
  hn : n = t.length
  own : Own w 63 eCe (.slice (some ⟨g, 0, none⟩) (n + 1) c) (t ++ [markC])
def LentPost (w : World) (t : List Ce) (e : Ending) (w' : World) : Prop := ∃ g n c, e = .returned (.slice (some ⟨g, 0, none⟩) n c) ∧ LentM w' g n c t ∧ w.heap.size ≤ g ∧ Below w.heap.size w w'
theorem LentM.src {w : World} {g n c : Nat} {t : List Ce} (h : LentM w g n c t) : Src w eCe (some ⟨g, 0, none⟩) c t := by
  have h1 := (h.own.src rfl).take t.length
  rwa [List.take_left'] at h1
  rfl
theorem LentM.cap {w : World} {g n c : Nat} {t : List Ce} (h : LentM w g n c t) : n + 1 ≤ c ∧ c ≤ maxLen := by
  obtain ⟨A, c', hv, h1, h2, _⟩ := h.own.shape
  rw [List.length_append, List.length_singleton] at hv h1
  cases hv
  exact ⟨by rw [h.hn]; exact h1, h2⟩
theorem LentM.frame {w w' : World} {g n c : Nat} {t : List Ce} {F : Nat → Prop} (h : LentM w g n c t) (hc : Chg F w w') (hF : ¬ F g) : LentM w' g n c t :=
  ⟨h.hn, h.own.frame hc (fun g' hg' => by
    have e : g = g' := by simpa [Value.ownBlock] using hg'
    exact e ▸ hF)⟩
theorem LentM.below {w w' : World} {g n c : Nat} {t : List Ce} (h : LentM w g n c t) (hb : Below w.heap.size w w') : LentM w' g n c t := h.frame (Chg.of_below hb NoF) (fun h => h)
set_option maxRecDepth 100000 in
set_option maxHeartbeats 4000000 in
theorem lent_any (w : World) (A : Option Addr) (c : Nat) (t : List Ce) (hs : Src w eCe A c t) (hn : t.length ≤ 4398046511000) :
    Calls Tryz.prog 22 #[.slice A t.length c] w (LentPost w t) := by
  obtain ⟨m, hm⟩ : ∃ m, m = t.length := ⟨_, rfl⟩
  have HM := Kp.mk hm
  rw [← hm]
  rw [← hm] at hn
  clear hm
  have hown : Own w 63 eCe (.slice none 0 0) [] := Own.nil _ _ _
  go_enter Tryz.func22, Tryz.ntmps22
  go_upto_region 3 with (at_builtin; refine app_ev TCe rfl _ _ rfl hown rfl hs HM.out rfl (by simp only [List.length_nil]; have := HM.out; omega) (by simp only [List.length_nil]; have := HM.out; omega) ?_; intro A1 n1 c1 w2 a0 a1 a2 a3; rw [List.nil_append] at a1; have A1' := Kp.mk a1; have A2' := Kp.mk a2; have A3' := Kp.mk a3; have A0' := a0; clear a1 a2 a3)
  have HB2 : Kp (Below w.heap.size w w2) := ⟨chg_below (Below.refl _ _) A2'.out (fun g hg => by cases hg) (Nat.le_refl _)⟩
  have HF2 : Kp (Fresh w (.slice A1 n1 c1)) := ⟨(Fresh.nil w 0 0).app (Nat.le_refl _) A3'.out⟩
  clear hown A0'
  go_upto_region 4 with (at_builtin; refine app1_ev TCe markC rfl _ _ rfl A1'.out rfl rfl rfl rfl rfl (by have := HM.out; omega) (by have := HM.out; omega) ?_; intro A4 n4 c4 w4 d0 d1 d2 d3; have D1 := Kp.mk d1; have D2 := Kp.mk d2; have D3 := Kp.mk d3; have D0 := d0; clear d0 d1 d2 d3)
  obtain rfl : n4 = m + 1 := by have h1 := D0.out; have := HM.out; omega
  obtain ⟨A5, c5, hv, h4, h5, h6, h7⟩ := D1.out.shape
  have hlen : (t ++ [markC]).length = m + 1 := by rw [List.length_append, ← HM.out]; rfl
  rw [hlen] at hv h4
  cases hv
  obtain ⟨g, rfl⟩ : ∃ g, A4 = some ⟨g, 0, none⟩ := by
    cases A4 with
    | none => have h8 := (h6 rfl).1; simp at h8
    | some a => obtain ⟨g, rfl⟩ := h7 a rfl; exact ⟨g, rfl⟩
  unfold maxLen at h5
  have hF4 : Kp (Fresh w (.slice (some ⟨g, 0, none⟩) (m + 1) c4)) := ⟨HF2.out.app HB2.out.size D3.out⟩
  have hc : m ≤ c4 := by omega
  clear h6 h7 hlen D0
  go_wp2
  go_ret
  exact ⟨g, m, c4, rfl, ⟨HM.out, D1.out⟩, hF4.out g rfl, chg_below HB2.out D2.out (fun g hg => HF2.out g hg) HB2.out.size⟩
theorem ce_ne {x y : Ce} (h : x.k ≠ y.k ∨ x.n ≠ y.n ∨ x.t ≠ y.t) : x ≠ y := by
  rintro rfl
  rcases h with h | h | h <;> exact h rfl
theorem list_ne {α : Type} {a b : List α} {k : Nat} {x y : α} (hx : a[k]? = some x) (hy : b[k]? = some y) (h : x ≠ y) : a ≠ b := by
  rintro rfl
  rw [hx] at hy
  exact h (Option.some.inj hy)
theorem pre_snoc {α : Type} {a b : List α} {k : Nat} {x : α} (hx : a[k]? = some x) (hy : b[k]? = some x) (h : a.take k = b.take k) : a.take (k + 1) = b.take (k + 1) := by
  rw [List.take_add_one, List.take_add_one, hx, hy, h]
set_option maxRecDepth 100000 in
set_option maxHeartbeats 8000000 in
theorem same_any (w : World) (A B : Option Addr) (c d : Nat) (a b : List Ce) (ha : Src w eCe A c a) (hb : Src w eCe B d b) (hn : a.length ≤ 9000000000000) :
    Calls Tryz.prog 38 #[.slice A a.length c, .slice B b.length d] w fun e w' => e = .returned (.bool (decide (a = b))) ∧ Below w.heap.size w w' := by
  have HA := Kp.mk ha
  have HB := Kp.mk hb
  clear ha hb
  by_cases hl : a.length = b.length
  · obtain ⟨n, hnn⟩ : ∃ n, n = a.length := ⟨_, rfl⟩
    have HL := Kp.mk hl
    have HN := Kp.mk hnn
    rw [← hl, ← hnn]
    rw [← hnn] at hn
    clear hl hnn
    go_enter Tryz.func38, Tryz.ntmps38
    go_wp2
    go_loopw [5] (fun i wr => ∃ k : Nat, k ≤ n ∧ i = .int .i64 k ∧ Kp (a.take k = b.take k) ∧ Kp (Below w.heap.size w wr)) (fun i _ => n - (intOf i).toNat)
    case atStart => exact ⟨0, Nat.zero_le _, rfl, ⟨rfl⟩, ⟨Below.refl _ _⟩⟩
    case round =>
      obtain ⟨k, hk, rfl, HJ, HBW⟩ := hrel
      by_cases hlt : k < n
      · obtain ⟨x, hx⟩ : ∃ x, a[k]? = some x := ⟨_, List.getElem?_eq_getElem (by have := HN.out; omega)⟩
        obtain ⟨y, hy⟩ : ∃ y, b[k]? = some y := ⟨_, List.getElem?_eq_getElem (by have := HN.out; have := HL.out; omega)⟩
        obtain ⟨ad, rfl⟩ : ∃ ad, A = some ad := by
          cases A with
          | none => have h9 := (HA.out.none rfl).1; rw [h9] at hx; simp at hx
          | some ad => exact ⟨ad, rfl⟩
        obtain ⟨g, o, rfl⟩ := HA.out.addr (by have := HN.out; omega)
        obtain ⟨bd, rfl⟩ : ∃ bd, B = some bd := by
          cases B with
          | none => have h9 := (HB.out.none rfl).1; rw [h9] at hy; simp at hy
          | some ad => exact ⟨ad, rfl⟩
        obtain ⟨g', o', rfl⟩ := HB.out.addr (by have := HN.out; have := HL.out; omega)
        obtain ⟨a0, a1, a2⟩ := (HA.out.below HBW.out).ce k x hx
        obtain ⟨b0, b1, b2⟩ := (HB.out.below HBW.out).ce k y hy
        have HX := Kp.mk hx
        have HY := Kp.mk hy
        have k0 : (0 : Int) ≤ (k : Int) := by omega
        have k1 : (k : Int) < (n : Int) := by omega
        clear hx hy
        obtain ⟨xk, xn, xt⟩ := x
        obtain ⟨yk, yn, yt⟩ := y
        simp only at a0 a1 a2 b0 b1 b2
        by_cases ek : xk = yk
        · by_cases en : xn = yn
          · by_cases et : xt = yt
            · subst ek; subst en; subst et
              have h1 : (xk != xk) = false := by simp
              have h2 : (xn != xn) = false := by simp
              have h3 : (xt.toList == xt.toList) = true := beq_self_eq_true _
              have HT : Kp (a.take (k + 1) = b.take (k + 1)) := ⟨pre_snoc HX.out HY.out HJ.out⟩
              go_wp2
              go_quiet (fail)
              go_wp2
              go_roundw
              case rel => exact ⟨k + 1, by omega, by go_num, HT, ⟨below_drewN HBW.out _⟩⟩
              case measure => simp [intOf]; omega
            · have HT : Kp (decide (a = b) = false) := ⟨decide_eq_false (list_ne HX.out HY.out (ce_ne (.inr (.inr et))))⟩
              have h3 := toList_beq et
              subst ek; subst en
              clear et
              go_wp2
              go_quiet (fail)
              go_wp2
              go_ret
              exact ⟨by rw [HT.out]; rfl, below_drewN HBW.out _⟩
          · have HT : Kp (decide (a = b) = false) := ⟨decide_eq_false (list_ne HX.out HY.out (ce_ne (.inr (.inl en))))⟩
            have h2 : (xn == yn) = false := by simpa using en
            subst ek
            clear en
            go_wp2
            go_quiet (fail)
            go_wp2
            go_ret
            exact ⟨by rw [HT.out]; rfl, below_drewN HBW.out _⟩
        · have HT : Kp (decide (a = b) = false) := ⟨decide_eq_false (list_ne HX.out HY.out (ce_ne (.inl ek)))⟩
          have h1 : (xk == yk) = false := by simpa using ek
          clear ek
          go_wp2
          go_quiet (fail)
          go_wp2
          go_ret
          exact ⟨by rw [HT.out]; rfl, below_drewN HBW.out _⟩
      · have HT : Kp (decide (a = b) = true) := ⟨decide_eq_true (by
          have h1 := HJ.out
          rwa [List.take_of_length_le (by have := HN.out; omega), List.take_of_length_le (by have := HN.out; have := HL.out; omega)] at h1)⟩
        go_wp2
        go_ret
        exact ⟨by rw [HT.out]; rfl, HBW.out⟩
  · have hb : ((a.length : Int) != (b.length : Int)) = true := by simp; omega
    have HT : Kp (decide (a = b) = false) := ⟨decide_eq_false (fun e => hl (by rw [e]))⟩
    clear hl
    go_enter Tryz.func38, Tryz.ntmps38
    go_wp2
    go_ret
    exact ⟨by rw [HT.out]; rfl, Below.refl _ _⟩
theorem Own.putC {w : World} {g n c : Nat} {L : List Ce} (h : Own w 63 eCe (.slice (some ⟨g, 0, none⟩) n c) L) (hn : n = L.length) (k : Nat) (hk : k < L.length) (y : Ce) :
    Own (((w.setCell ⟨g, k * 3, none⟩ (.int .i64 y.k)).setCell ⟨g, k * 3 + 1, none⟩ (.int .i64 y.n)).setCell ⟨g, k * 3 + 2, none⟩ (.string y.t)) 63 eCe (.slice (some ⟨g, 0, none⟩) n c) (L.set k y) := by
  have h1 := h.set hn k 0 ⟨y.k, L[k].n, L[k].t⟩ (.int .i64 y.k) hk (by decide) (by simp [eCe])
  have h2 := h1.set (by simpa using hn) k 1 ⟨y.k, y.n, L[k].t⟩ (.int .i64 y.n) (by simpa using hk) (by decide) (by simp [eCe])
  have h3 := h2.set (by simpa using hn) k 2 y (.string y.t) (by simpa using hk) (by decide) (by simp [eCe])
  simpa [eCe] using h3
theorem chg_put3 {g : Nat} (w : World) (a b c : Nat) (u v x : Value) : Chg (fun k => k = g) w (((w.setCell ⟨g, a, none⟩ u).setCell ⟨g, b, none⟩ v).setCell ⟨g, c, none⟩ x) :=
  (((chg_cell w g a u).set (p := ⟨g, b, none⟩) (.inl rfl) v).set (p := ⟨g, c, none⟩) (.inl rfl) x)
set_option maxRecDepth 100000 in
set_option maxHeartbeats 8000000 in
theorem spoil_any (w : World) (A : Option Addr) (c : Nat) (t : List Ce) (ho : Own w 63 eCe (.slice A t.length c) t) (hn : t.length ≤ 4398046511000) :
    Calls Tryz.prog 13 #[.slice A t.length c] w fun e w' => (∃ v, e = .returned v) ∧ Chg (fun g => (Value.slice A t.length c).ownBlock = some g) w w' := by
  obtain ⟨m, hm⟩ : ∃ m, m = t.length := ⟨_, rfl⟩
  rw [← hm] at ho hn ⊢
  have HM := Kp.mk hm
  have HO := Kp.mk ho
  clear hm ho
  go_enter Tryz.func13, Tryz.ntmps13
  go_wp2
  go_loopw [2] (fun i wr => ∃ (k : Nat) (l : List Ce), k ≤ m ∧ i = .int .i64 k ∧ Kp (l.length = m) ∧ Kp (Own wr 63 eCe (.slice A m c) l) ∧ Kp (Chg (fun g => (Value.slice A m c).ownBlock = some g) w wr)) (fun i _ => m - (intOf i).toNat)
  case atStart => exact ⟨0, t, Nat.zero_le _, rfl, ⟨HM.out.symm⟩, HO, ⟨Chg.refl _ _⟩⟩
  case round =>
    obtain ⟨k, l, hk, rfl, HL, HW, HC⟩ := hrel
    by_cases hlt : k < m
    · obtain ⟨A', c', hv, h4, h5, h6, h7⟩ := HW.out.shape
      rw [HL.out] at hv
      cases hv
      obtain ⟨g, rfl⟩ : ∃ g, A = some ⟨g, 0, none⟩ := by
        cases A with
        | none => have h8 := (h6 rfl).1; have := HL.out; rw [h8] at this; simp at this; omega
        | some a => obtain ⟨g, rfl⟩ := h7 a rfl; exact ⟨g, rfl⟩
      obtain ⟨x, hx⟩ : ∃ x, l[k]? = some x := ⟨_, List.getElem?_eq_getElem (by have := HL.out; omega)⟩
      obtain ⟨a0, a1, a2⟩ := (HW.out.src rfl).ce k x hx
      rw [Nat.zero_add] at a0 a1 a2
      have f0 := HW.out.frozen (k * 3)
      have f1 := HW.out.frozen (k * 3 + 1)
      have f2 := HW.out.frozen (k * 3 + 2)
      have hput := HW.out.putC HL.out.symm k (by have := HL.out; omega) spoiltC
      have hchg := (HC.out.trans (chg_put3 (g := g) wr (k * 3) (k * 3 + 1) (k * 3 + 2) (.int .i64 99) (.int .i64 99) (.string spoiltS)) (fun n _ hn => by subst hn; rfl))
      have P1 := Kp.mk hput
      have P2 := Kp.mk hchg
      have k0 : (0 : Int) ≤ (k : Int) := by omega
      have k1 : (k : Int) < (m : Int) := by omega
      clear h4 h5 h6 h7 hx hput hchg
      go_wp2
      go_roundw
      case rel => exact ⟨k + 1, l.set k spoiltC, by omega, by go_num, ⟨by rw [List.length_set]; exact HL.out⟩, P1, P2⟩
      case measure => simp [intOf]; omega
    · obtain rfl : k = m := by omega
      obtain ⟨wz, hwz⟩ : ∃ wz, wz = wr := ⟨_, rfl⟩
      subst hwz
      go_upto_region 5 with (at_builtin; refine app1_ev TCe ⟨0, 0, behindS⟩ rfl _ _ rfl HW.out rfl rfl rfl rfl rfl (by have := HL.out; omega) (by have := HL.out; omega) ?_; intro A4 n4 c4 w4 d0 d1 d2 d3; have D1 := Kp.mk d1; have D2 := Kp.mk d2; have D3 := Kp.mk d3; have D0 := d0; clear d0 d1 d2 d3)
      obtain rfl : n4 = k + 1 := by have h1 := D0.out; have := HL.out; omega
      obtain ⟨A5, c5, hv, h4, h5, h6, h7⟩ := D1.out.shape
      have hlen : (l ++ [(⟨0, 0, behindS⟩ : Ce)]).length = k + 1 := by rw [List.length_append, HL.out]; rfl
      rw [hlen] at hv h4
      cases hv
      obtain ⟨g, rfl⟩ : ∃ g, A4 = some ⟨g, 0, none⟩ := by
        cases A4 with
        | none => have h8 := (h6 rfl).1; simp at h8
        | some a => obtain ⟨g, rfl⟩ := h7 a rfl; exact ⟨g, rfl⟩
      obtain ⟨a0, a1, a2⟩ := (D1.out.src rfl).ce k ⟨0, 0, behindS⟩ (by rw [← HL.out]; simp)
      rw [Nat.zero_add] at a1
      simp only at a1
      have f1 := D1.out.frozen (k * 3 + 1)
      have hs : IntKind.i64.wrap ((k : Int) + 1 - 1) = (k : Int) := by rw [IntWalk.i64_in _ (by omega)]; omega
      clear a0 a2 h4 h5 h6 h7 hlen D0
      go_wp2
      go_end0
      refine ⟨⟨_, rfl⟩, (HC.out.trans D2.out (fun _ _ h => h)).set (p := ⟨g, k * 3 + 1, none⟩) ?_ _⟩
      rcases D3.out with h | ⟨g', h, hg⟩
      · exact .inl h.symm
      · refine .inr ?_
        have e : g = g' := by simpa [Value.ownBlock] using h
        have := HC.out.size
        show w.heap.size ≤ g
        omega
set_option maxRecDepth 100000 in
set_option maxHeartbeats 4000000 in
theorem kept_any (w : World) (B : Option Addr) (g n c d : Nat) (t : List Ce) (hl : LentM w g n c t) (hb : Src w eCe B d t) (hn : t.length ≤ 4398046511000) :
    Calls Tryz.prog 40 #[.slice (some ⟨g, 0, none⟩) n c, .slice B t.length d] w fun e w' => e = .returned (.bool true) ∧ Below w.heap.size w w' := by
  have HS := same_any w _ _ c d t t hl.src hb (by omega)
  have HL := Kp.mk hl
  obtain ⟨h1, h2⟩ := hl.cap
  unfold maxLen at h2
  rw [decide_eq_true rfl] at HS
  have hm := hl.hn
  rw [← hm] at HS hn ⊢
  have HC : Kp (∀ w', Below w.heap.size w w' → w'.cell? ⟨g, n * 3 + 2, none⟩ = some (.string markS)) := ⟨fun w' hw => by
    obtain ⟨a0, a1, a2⟩ := ((HL.out.below hw).own.src rfl).ce n markC (by rw [HL.out.hn]; simp)
    rw [Nat.zero_add] at a2
    exact a2⟩
  have HS1 := Kp.mk HS
  have hbb : (markS.toList == markS.toList) = true := beq_self_eq_true _
  have n1 : IntKind.i64.wrap ((n : Int) + 1) = (n : Int) + 1 := IntWalk.i64_in _ (by omega)
  unfold markS at hbb HC
  clear HS hm hl hb
  go_enter Tryz.func40, Tryz.ntmps40
  go_wp2_with (go_at_call 38; refine HS1.out.mono ?_; rintro e w1 ⟨rfl, b1⟩; have B1 := Kp.mk b1; have c1 := HC.out _ b1; clear b1)
  go_ret
  exact ⟨rfl, B1.out⟩
end Go.Proofs.YtameidoaenoppaaGreatDoor
