/- What New, Set, When, Next, Len of package timer answer; no condition but bounds. -/
import Derived.Test.YtobgabjoehjpcaaF
namespace Go.Proofs.Ytobgabjoehjpcaa
open Go.RowKit

set_option maxHeartbeats 400000 in
theorem at1_any (w : World) (B : Nat) (r : Int) (x : Ent) (hB : w.heap[B]? = some (.cells #[.int .i64 r] 2 (0, 0))) :
    Calls Try.prog 39 #[.agg #[.int .i64 x.ref, .int .i64 x.dl, .int .i64 x.tn], .pointer (some ⟨B, 0, none⟩)] w fun e w' => e = .returned (.bool (x.ref == r)) ∧ Below w.heap.size w w' := by
  have hB0 : w.cell? ⟨B, 0, none⟩ = some (.int .i64 r) := blk_c hB 0
  have hlt := lt_of_block hB
  go_enter Try.func39, Try.ntmps39
  go_wp2
  go_ret
  exact ⟨rfl, (Below.refl _ _).alloc (Nat.le_refl _) _⟩
/-- The place of a ref; -1: it is not there. -/
def AtRef (l : List Ent) (r : Int) (k : Int) : Prop :=
  (∃ i : Nat, i < l.length ∧ k = i ∧ (gt l i).ref = r ∧ ∀ j, j < i → (gt l j).ref ≠ r) ∨ (k = -1 ∧ ∀ j, j < l.length → (gt l j).ref ≠ r)
def IndexPost (l : List Ent) (r : Int) (w : World) (e : Ending) (w' : World) : Prop := ∃ k : Int, AtRef l r k ∧ e = .returned (.int .i64 k) ∧ Below w.heap.size w w'
set_option maxHeartbeats 1000000 in
theorem index_any (w : World) (B : Nat) (r : Int) (l : List Ent) (A : Option Addr) (cp : Nat) (hs : Src w eEnt A cp l) (hn : l.length ≤ 1000000) (hB : w.heap[B]? = some (.cells #[.int .i64 r] 2 (0, 0))) :
    Calls Try.prog 38 #[.slice A l.length cp, .func (.func 39) #[] #[.pointer (some ⟨B, 0, none⟩)]] w (IndexPost l r w) := by
  go_enter Try.func38, Try.ntmps38
  go_wp2
  go_loopw [8] (fun i wr => ∃ k : Nat, k ≤ l.length ∧ i = .int .i64 k ∧ Kp (∀ j, j < k → (gt l j).ref ≠ r) ∧ Below w.heap.size w wr) (fun i _ => l.length - (intOf i).toNat)
  case atStart => exact ⟨0, Nat.zero_le _, rfl, ⟨fun j h => by omega⟩, Below.refl _ _⟩
  case round =>
    obtain ⟨k, hk, rfl, HNO, hb⟩ := hrel
    by_cases hlt : k < l.length
    · cases A with
      | none => have := (hs.none rfl).1; subst this; simp at hlt
      | some ad =>
        obtain ⟨g, o, rfl⟩ := hs.addr (by omega)
        have hgt : gt l k = l[k] := by unfold gt; rw [List.getD_eq_getElem?_getD, List.getElem?_eq_getElem hlt]; rfl
        have H0 : wr.cell? ⟨g, o + k * 3, none⟩ = some (.int .i64 (gt l k).ref) := by rw [hgt]; exact (hs.below hb).elem k 0 hlt (by decide)
        have H1 : wr.cell? ⟨g, o + k * 3 + 1, none⟩ = some (.int .i64 (gt l k).dl) := by rw [hgt]; exact (hs.below hb).elem k 1 hlt (by decide)
        have H2 : wr.cell? ⟨g, o + k * 3 + 2, none⟩ = some (.int .i64 (gt l k).tn) := by rw [hgt]; exact (hs.below hb).elem k 2 hlt (by decide)
        obtain ⟨x, hx⟩ : ∃ x, x = gt l k := ⟨_, rfl⟩
        have HX := Kp.mk hx
        rw [← hx] at H0 H1 H2
        have hBr : wr.heap[B]? = some (.cells #[.int .i64 r] 2 (0, 0)) := (Chg.of_below hb NoF).at hB (fun h => h)
        have HA := Kp.mk (at1_any wr B r x hBr)
        clear hgt hx hBr
        go_wp2_with fail
        refine HA.out.mono ?_
        rintro e w1 ⟨rfl, hb1⟩
        cases hq : (x.ref == r)
        · have hne : Kp (x.ref ≠ r) := ⟨by simpa using hq⟩
          have HB1 := Kp.mk (hb.trans (hb1.mono hb.size))
          clear hb1 hq HA
          go_wp2
          go_roundw
          case rel =>
            refine ⟨k + 1, by omega, by go_num, ⟨?_⟩, HB1.out⟩
            intro j hj
            by_cases e : j = k
            · subst e; rw [← HX.out]; exact hne.out
            · exact HNO.out j (by omega)
          case measure => simp [intOf]; omega
        · have he : Kp (x.ref = r) := ⟨by simpa using hq⟩
          have HB1 := Kp.mk (hb.trans (hb1.mono hb.size))
          clear hb1 hq HA
          go_wp2
          go_ret
          exact ⟨k, .inl ⟨k, hlt, rfl, by rw [← HX.out]; exact he.out, HNO.out⟩, rfl, HB1.out⟩
    · have hle : l.length ≤ k := by omega
      clear hlt
      go_wp2
      go_ret
      exact ⟨-1, .inr ⟨rfl, fun j hj => HNO.out j (by omega)⟩, rfl, hb⟩
theorem IsWh.sh {w : World} {p : Nat} {qv : Value} {l : List Ent} {tn : Int} (h : IsWh w p qv l tn) : ∃ A c, qv = .slice A l.length c ∧ w.cell? ⟨p, 0, none⟩ = some (.slice A l.length c) := by
  obtain ⟨A, c, hv, _⟩ := h.own.shape
  exact ⟨A, c, hv, by rw [← hv]; exact h.c0⟩
set_option maxHeartbeats 1000000 in
theorem at_any (w : World) (p : Nat) (qv : Value) (l : List Ent) (tn r : Int) (h : IsWh w p qv l tn) (hn : l.length ≤ 1000000) :
    Calls Try.prog 29 #[.pointer (some ⟨p, 0, none⟩), .int .i64 r] w (IndexPost l r w) := by
  obtain ⟨A, c, hv, q⟩ := h.sh
  have h1 := h.below ((Below.refl _ w).alloc (Nat.le_refl _) (.cells #[.int .i64 r] 2))
  have ho := h1.own
  rw [hv] at ho
  have HI := Kp.mk (index_any _ w.heap.size r l A c (ho.src rfl) hn (blk_new w (.cells #[.int .i64 r] 2)))
  have hpl := h.lt
  clear h h1 ho hv
  go_enter Try.func29, Try.ntmps29
  go_wp2_with fail
  refine HI.out.mono ?_
  rintro e w1 ⟨k, hk, rfl, hb1⟩
  have HK := Kp.mk hk
  have HB : Kp (Below w.heap.size w w1) := ⟨((Below.refl w.heap.size w).alloc (Nat.le_refl _) _).trans (hb1.mono (by simp))⟩
  clear hk hb1 HI
  go_wp2
  go_ret
  exact ⟨k, HK.out, rfl, HB.out⟩
set_option maxHeartbeats 1000000 in
theorem new_any (w : World) : Calls Try.prog 16 #[] w fun e w' => ∃ p, w.heap.size ≤ p ∧ e = .returned (.pointer (some ⟨p, 0, none⟩)) ∧ IsWh w' p (.slice none 0 0) [] 0 ∧ Below w.heap.size w w' := by
  go_enter Try.func16, Try.ntmps16
  go_wp2
  go_ret
  exact ⟨w.heap.size, Nat.le_refl _, rfl, ⟨blk_new w _, Own.nil _ _ _⟩, (Below.refl _ _).alloc (Nat.le_refl _) _⟩
def addE (t a : Int) : Int := if t < 0 ∨ 1152921504606846976 < t ∨ a < 0 then 1 else 0
def addV (t a : Int) : Int := if t < 0 ∨ 1152921504606846976 < t ∨ a < 0 then 0 else if 1152921504606846976 - t < a then 1152921504606846976 else t + a
def AddPost (t a : Int) (w : World) (e : Ending) (w' : World) : Prop := e = .returned (.tuple #[.int .i64 (addV t a), .int .i64 (addE t a)]) ∧ w = w'
set_option maxHeartbeats 1000000 in
theorem add_any (w : World) (t a : Int) : Calls Try.prog 10 #[.int .i64 t, .int .i64 a] w (AddPost t a w) := by
  by_cases h1 : t < 0
  · have e : Kp (addE t a = 1 ∧ addV t a = 0) := ⟨by unfold addE addV; rw [if_pos (.inl h1), if_pos (.inl h1)]; exact ⟨rfl, rfl⟩⟩
    have d1 : decide (t < 0) = true := by simpa using h1
    go_enter Try.func10, Try.ntmps10
    go_wp2
    go_ret2
    exact ⟨by rw [e.out.1, e.out.2]; rfl, rfl⟩
  have d1 : decide (t < 0) = false := by simpa using h1
  by_cases h2 : 1152921504606846976 < t
  · have e : Kp (addE t a = 1 ∧ addV t a = 0) := ⟨by unfold addE addV; rw [if_pos (.inr (.inl h2)), if_pos (.inr (.inl h2))]; exact ⟨rfl, rfl⟩⟩
    have d2 : decide (1152921504606846976 < t) = true := by simpa using h2
    go_enter Try.func10, Try.ntmps10
    go_wp2
    go_ret2
    exact ⟨by rw [e.out.1, e.out.2]; rfl, rfl⟩
  have d2 : decide (1152921504606846976 < t) = false := by simpa using h2
  by_cases h3 : a < 0
  · have e : Kp (addE t a = 1 ∧ addV t a = 0) := ⟨by unfold addE addV; rw [if_pos (.inr (.inr h3)), if_pos (.inr (.inr h3))]; exact ⟨rfl, rfl⟩⟩
    have d3 : decide (a < 0) = true := by simpa using h3
    go_enter Try.func10, Try.ntmps10
    go_wp2
    go_ret2
    exact ⟨by rw [e.out.1, e.out.2]; rfl, rfl⟩
  have d3 : decide (a < 0) = false := by simpa using h3
  have hn : ¬ (t < 0 ∨ 1152921504606846976 < t ∨ a < 0) := by omega
  have h1' : 0 ≤ t := by omega
  have h2' : t ≤ 1152921504606846976 := by omega
  have h3' : 0 ≤ a := by omega
  by_cases h4 : 1152921504606846976 - t < a
  · have e : Kp (addE t a = 0 ∧ addV t a = 1152921504606846976) := ⟨by unfold addE addV; rw [if_neg hn, if_neg hn, if_pos h4]; exact ⟨rfl, rfl⟩⟩
    have d4 : decide (1152921504606846976 - t < a) = true := by simpa using h4
    clear hn
    go_enter Try.func10, Try.ntmps10
    go_wp2
    go_ret2
    exact ⟨by rw [e.out.1, e.out.2]; rfl, rfl⟩
  · have e : Kp (addE t a = 0 ∧ addV t a = t + a) := ⟨by unfold addE addV; rw [if_neg hn, if_neg hn, if_neg h4]; exact ⟨rfl, rfl⟩⟩
    have d4 : decide (1152921504606846976 - t < a) = false := by simpa using h4
    have h4' : a ≤ 1152921504606846976 - t := by omega
    have h5 : t + a ≤ 1152921504606846976 := by omega
    clear hn
    go_enter Try.func10, Try.ntmps10
    go_wp2
    go_ret2
    exact ⟨by rw [e.out.1, e.out.2]; rfl, rfl⟩
set_option maxHeartbeats 1000000 in
theorem radd_any (w : World) (t a : Int) : Calls Try.prog 11 #[.int .i64 t, .int .i64 a] w (AddPost t a w) := by
  by_cases h1 : t < 0
  · have e : Kp (addE t a = 1 ∧ addV t a = 0) := ⟨by unfold addE addV; rw [if_pos (.inl h1), if_pos (.inl h1)]; exact ⟨rfl, rfl⟩⟩
    have d1 : decide (t < 0) = true := by simpa using h1
    go_enter Try.func11, Try.ntmps11
    go_wp2
    go_ret2
    exact ⟨by rw [e.out.1, e.out.2]; rfl, rfl⟩
  have d1 : decide (t < 0) = false := by simpa using h1
  by_cases h2 : 1152921504606846976 < t
  · have e : Kp (addE t a = 1 ∧ addV t a = 0) := ⟨by unfold addE addV; rw [if_pos (.inr (.inl h2)), if_pos (.inr (.inl h2))]; exact ⟨rfl, rfl⟩⟩
    have d2 : decide (1152921504606846976 < t) = true := by simpa using h2
    go_enter Try.func11, Try.ntmps11
    go_wp2
    go_ret2
    exact ⟨by rw [e.out.1, e.out.2]; rfl, rfl⟩
  have d2 : decide (1152921504606846976 < t) = false := by simpa using h2
  by_cases h3 : a < 0
  · have e : Kp (addE t a = 1 ∧ addV t a = 0) := ⟨by unfold addE addV; rw [if_pos (.inr (.inr h3)), if_pos (.inr (.inr h3))]; exact ⟨rfl, rfl⟩⟩
    have d3 : decide (a < 0) = true := by simpa using h3
    go_enter Try.func11, Try.ntmps11
    go_wp2
    go_ret2
    exact ⟨by rw [e.out.1, e.out.2]; rfl, rfl⟩
  have d3 : decide (a < 0) = false := by simpa using h3
  have hn : ¬ (t < 0 ∨ 1152921504606846976 < t ∨ a < 0) := by omega
  have h1' : 0 ≤ t := by omega
  have h2' : t ≤ 1152921504606846976 := by omega
  have h3' : 0 ≤ a := by omega
  by_cases h4 : 1152921504606846976 - t < a
  · have e : Kp (addE t a = 0 ∧ addV t a = 1152921504606846976) := ⟨by unfold addE addV; rw [if_neg hn, if_neg hn, if_pos h4]; exact ⟨rfl, rfl⟩⟩
    have d4 : decide (1152921504606846976 - t < a) = true := by simpa using h4
    clear hn
    go_enter Try.func11, Try.ntmps11
    go_wp2
    go_ret2
    exact ⟨by rw [e.out.1, e.out.2]; rfl, rfl⟩
  · have e : Kp (addE t a = 0 ∧ addV t a = t + a) := ⟨by unfold addE addV; rw [if_neg hn, if_neg hn, if_neg h4]; exact ⟨rfl, rfl⟩⟩
    have d4 : decide (1152921504606846976 - t < a) = false := by simpa using h4
    have h4' : a ≤ 1152921504606846976 - t := by omega
    have h5 : t + a ≤ 1152921504606846976 := by omega
    clear hn
    go_enter Try.func11, Try.ntmps11
    go_wp2
    go_ret2
    exact ⟨by rw [e.out.1, e.out.2]; rfl, rfl⟩
def setE (l : List Ent) (ref dl : Int) : Int := if ref < 1 ∨ 281474976710656 < ref ∨ dl < 0 ∨ 1152921504606846976 < dl then 1 else if (∃ j, j < l.length ∧ (gt l j).ref = ref) then 6 else if 256 ≤ l.length then 8 else 0
end Go.Proofs.Ytobgabjoehjpcaa
