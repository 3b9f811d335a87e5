/- What down of container/heap does over package timer's queue; no condition but bounds. -/
import Derived.Test.YtobgabjoehjpcaaU
namespace Go.Proofs.Ytobgabjoehjpcaa
open Go.RowKit

def e0 : Ent := ⟨0, 0, 0⟩
def gt (l : List Ent) (i : Nat) : Ent := l.getD i e0
theorem gt_at (l : List Ent) (i : Nat) (h : i < l.length) : l[i]? = some (gt l i) := by
  unfold gt; rw [List.getD_eq_getElem?_getD, List.getElem?_eq_getElem h]; rfl
/-- The lower of two children, or the one there is. -/
def kid (l : List Ent) (n j : Nat) : Nat := if j + 1 < n ∧ lessB (gt l (j + 1)) (gt l j) = true then j + 1 else j
theorem kid_bd (l : List Ent) (n j : Nat) (h : j < n) : j ≤ kid l n j ∧ kid l n j < n := by unfold kid; split <;> omega
def downL (l : List Ent) (n i : Nat) : List Ent × Nat :=
  if h : 2 * i + 1 < n then
    if lessB (gt l (kid l n (2 * i + 1))) (gt l i) then downL (swapL l i (kid l n (2 * i + 1)) (gt l i) (gt l (kid l n (2 * i + 1)))) n (kid l n (2 * i + 1)) else (l, i)
  else (l, i)
termination_by n - i
decreasing_by have := kid_bd l n (2 * i + 1) h; omega
set_option maxRecDepth 100000 in
set_option maxHeartbeats 4000000 in
theorem down_any (w : World) (p g n c i0 m : Nat) (l : List Ent) (hp : w.cell? ⟨p, 0, none⟩ = some (.slice (some ⟨g, 0, none⟩) n c)) (hpg : p ≠ g) (ho : Own w 60 eEnt (.slice (some ⟨g, 0, none⟩) n c) l) (hl : n = l.length) (hj : i0 < n) (hm : m ≤ n) (hn : n ≤ 1000000) :
    Calls Try.prog 37 #[.iface 62 (.pointer (some ⟨p, 0, none⟩)), .int .i64 i0, .int .i64 m] w fun e w' => e = .returned (.bool (decide (i0 < (downL l m i0).2))) ∧ Own w' 60 eEnt (.slice (some ⟨g, 0, none⟩) n c) (downL l m i0).1 ∧ Chg (fun x => x = g) w w' := by
  have HP : Kp (w.cell? ⟨p, 0, none⟩ = some (.slice (some ⟨g, 0, none⟩) n c)) := ⟨hp⟩
  have HO := Kp.mk ho
  have HL := Kp.mk hl
  clear hp ho hl
  go_enter Try.func37, Try.ntmps37
  go_wp2
  go_loopw [7, 8, 9, 10] (fun iv _ _ _ wr => ∃ (k : Nat) (l' : List Ent), k < n ∧ iv = .int .i64 k ∧ Kp (Own wr 60 eEnt (.slice (some ⟨g, 0, none⟩) n c) l') ∧ Kp (n = l'.length) ∧ Kp (downL l' m k = downL l m i0) ∧ Kp (wr.cell? ⟨p, 0, none⟩ = some (.slice (some ⟨g, 0, none⟩) n c)) ∧ Kp (Chg (fun x => x = g) w wr)) (fun iv _ _ _ _ => n - (intOf iv).toNat)
  case atStart => exact ⟨i0, l, hj, rfl, HO, HL, ⟨rfl⟩, HP, ⟨Chg.refl _ _⟩⟩
  case round =>
    obtain ⟨k, l', hk, rfl, hO, hLn, hU, hP, hC⟩ := hrel
    have hml := meth_less wr p _ hP.out
    obtain ⟨j1, hj1⟩ : ∃ j1 : Nat, 2 * (k : Int) + 1 = (j1 : Int) := ⟨2 * k + 1, by omega⟩
    have hj1n : j1 = 2 * k + 1 := by omega
    have HJ := Kp.mk hj1n
    by_cases hA : m ≤ j1
    · have e : Kp (downL l' m k = (l', k)) := ⟨by unfold downL; rw [dif_neg (by omega)]⟩
      have hd : decide ((m : Int) ≤ (j1 : Int)) = true := by simpa using hA
      have hdi : (m : Int) ≤ (j1 : Int) := by omega
      have e1 : Kp ((downL l m i0).2 = k ∧ (downL l m i0).1 = l') := ⟨by rw [← hU.out, e.out]; exact ⟨rfl, rfl⟩⟩
      clear hj1n hA
      go_wp2
      go_ret
      rw [e1.out.1, e1.out.2]
      exact ⟨rfl, hO.out, hC.out⟩
    · have hd : decide ((m : Int) ≤ (j1 : Int)) = false := by simp; omega
      have hdi : ¬ ((m : Int) ≤ (j1 : Int)) := by omega
      have hd0 : decide ((j1 : Int) < 0) = false := by simp
      have hd0i : ¬ ((j1 : Int) < 0) := by omega
      have hj1b : j1 < n := by omega
      have hj1c : (j1 : Int) ≤ 1000000 := by omega
      have hE : Kp (∀ jj, kid l' m j1 = jj → downL l' m k = if lessB (gt l' jj) (gt l' k) then downL (swapL l' k jj (gt l' k) (gt l' jj)) m jj else (l', k)) := ⟨fun jj hjj => by
        conv => lhs; unfold downL
        rw [dif_pos (by omega), ← hj1n, hjj]⟩
      have HK : Kp (∀ i, i < n → At wr g (i * 3) (gt l' i)) := ⟨fun i hi => hO.out.ent i _ (gt_at _ _ (by have := hLn.out; omega))⟩
      have hkj : Kp (k < j1) := ⟨by omega⟩
      clear hj1n hA
      by_cases hB : j1 + 1 < m
      · have hb2 : decide ((j1 : Int) + 1 < (m : Int)) = true := by simp; omega
        have hb2i : (j1 : Int) + 1 < (m : Int) := by omega
        have hb3 : j1 + 1 < n := by omega
        have HL1 := Kp.mk (less_any wr g n c (j1 + 1) j1 _ _ hb3 hj1b hn (HK.out _ hb3) (HK.out _ hj1b))
        go_wp2_with fail
        refine HL1.out.mono ?_
        rintro e1 wa ⟨rfl, hba⟩
        have O2 := Kp.mk (hO.out.frame (Chg.of_below hba NoF) (fun _ _ h => h))
        have P2 : Kp (wa.cell? ⟨p, 0, none⟩ = some (.slice (some ⟨g, 0, none⟩) n c)) := ⟨(hba.cell (World.block_lt_of_cell? wr _ hP.out)).trans hP.out⟩
        have C2 : Kp (Chg (fun x => x = g) w wa) := ⟨hC.out.then (Chg.of_below hba _)⟩
        have HK2 : Kp (∀ i, i < n → At wa g (i * 3) (gt l' i)) := ⟨fun i hi => (HK.out i hi).below hba⟩
        clear hml hba HL1
        cases hlb : lessB (gt l' (j1 + 1)) (gt l' j1)
        · have hjj : Kp (kid l' m j1 = j1) := ⟨by unfold kid; rw [if_neg (by rw [hlb]; simp)]⟩
          clear hlb
          have E := Kp.mk (hE.out _ hjj.out)
          have hml2 := meth_less wa p _ P2.out
          have HL2 := Kp.mk (less_any wa g n c (j1) k _ _ hj1b hk hn (HK2.out _ hj1b) (HK2.out _ hk))
          go_wp2_with fail
          refine HL2.out.mono ?_
          rintro e2 wb ⟨rfl, hbb⟩
          have O3 := Kp.mk (O2.out.frame (Chg.of_below hbb NoF) (fun _ _ h => h))
          have P3 : Kp (wb.cell? ⟨p, 0, none⟩ = some (.slice (some ⟨g, 0, none⟩) n c)) := ⟨(hbb.cell (World.block_lt_of_cell? wa _ P2.out)).trans P2.out⟩
          have C3 : Kp (Chg (fun x => x = g) w wb) := ⟨C2.out.then (Chg.of_below hbb _)⟩
          clear hml2 hbb HL2
          cases hlb2 : lessB (gt l' (j1)) (gt l' k)
          · have e1 : Kp ((downL l m i0).2 = k ∧ (downL l m i0).1 = l') := ⟨by rw [← hU.out, E.out, hlb2]; exact ⟨rfl, rfl⟩⟩
            clear hlb2
            go_wp2
            go_ret
            rw [e1.out.1, e1.out.2]
            exact ⟨rfl, O3.out, C3.out⟩
          · have e1 : Kp (downL (swapL l' k (j1) (gt l' k) (gt l' (j1))) m (j1) = downL l m i0) := ⟨by rw [← hU.out, E.out, hlb2]; rfl⟩
            have HSW := Kp.mk (swap_any wb g n c k (j1) l' _ _ O3.out hLn.out (gt_at _ _ (by have := hLn.out; omega)) (gt_at _ _ (by have := hLn.out; omega)) hn)
            have hms := meth_swap wb p _ P3.out
            clear hlb2
            go_wp2_with fail
            refine HSW.out.mono ?_
            rintro e3 wc ⟨⟨v, rfl⟩, o4, c4⟩
            have O4 := Kp.mk o4
            have C4 : Kp (Chg (fun x => x = g) w wc) := ⟨C3.out.then c4⟩
            have P4 : Kp (wc.cell? ⟨p, 0, none⟩ = some (.slice (some ⟨g, 0, none⟩) n c)) := ⟨by
              have h1 := P3.out
              have hlt := World.block_lt_of_cell? wb _ h1
              have h2 := c4.block p hlt hpg
              simp only [World.cell?] at h1 ⊢
              rw [h2]; exact h1⟩
            clear o4 c4 hms HSW
            go_wp2
            go_roundw
            case rel => exact ⟨j1, _, hj1b, rfl, O4, ⟨by rw [swapL_len]; exact hLn.out⟩, e1, P4, C4⟩
            case measure => have := hkj.out; simp [intOf]; omega
        · have hjj : Kp (kid l' m j1 = j1 + 1) := ⟨by unfold kid; rw [if_pos ⟨hB, hlb⟩]⟩
          clear hlb
          have E := Kp.mk (hE.out _ hjj.out)
          have hml2 := meth_less wa p _ P2.out
          have HL2 := Kp.mk (less_any wa g n c (j1 + 1) k _ _ hb3 hk hn (HK2.out _ hb3) (HK2.out _ hk))
          go_wp2_with fail
          refine HL2.out.mono ?_
          rintro e2 wb ⟨rfl, hbb⟩
          have O3 := Kp.mk (O2.out.frame (Chg.of_below hbb NoF) (fun _ _ h => h))
          have P3 : Kp (wb.cell? ⟨p, 0, none⟩ = some (.slice (some ⟨g, 0, none⟩) n c)) := ⟨(hbb.cell (World.block_lt_of_cell? wa _ P2.out)).trans P2.out⟩
          have C3 : Kp (Chg (fun x => x = g) w wb) := ⟨C2.out.then (Chg.of_below hbb _)⟩
          clear hml2 hbb HL2
          cases hlb2 : lessB (gt l' (j1 + 1)) (gt l' k)
          · have e1 : Kp ((downL l m i0).2 = k ∧ (downL l m i0).1 = l') := ⟨by rw [← hU.out, E.out, hlb2]; exact ⟨rfl, rfl⟩⟩
            clear hlb2
            go_wp2
            go_ret
            rw [e1.out.1, e1.out.2]
            exact ⟨rfl, O3.out, C3.out⟩
          · have e1 : Kp (downL (swapL l' k (j1 + 1) (gt l' k) (gt l' (j1 + 1))) m (j1 + 1) = downL l m i0) := ⟨by rw [← hU.out, E.out, hlb2]; rfl⟩
            have HSW := Kp.mk (swap_any wb g n c k (j1 + 1) l' _ _ O3.out hLn.out (gt_at _ _ (by have := hLn.out; omega)) (gt_at _ _ (by have := hLn.out; omega)) hn)
            have hms := meth_swap wb p _ P3.out
            clear hlb2
            go_wp2_with fail
            refine HSW.out.mono ?_
            rintro e3 wc ⟨⟨v, rfl⟩, o4, c4⟩
            have O4 := Kp.mk o4
            have C4 : Kp (Chg (fun x => x = g) w wc) := ⟨C3.out.then c4⟩
            have P4 : Kp (wc.cell? ⟨p, 0, none⟩ = some (.slice (some ⟨g, 0, none⟩) n c)) := ⟨by
              have h1 := P3.out
              have hlt := World.block_lt_of_cell? wb _ h1
              have h2 := c4.block p hlt hpg
              simp only [World.cell?] at h1 ⊢
              rw [h2]; exact h1⟩
            clear o4 c4 hms HSW
            go_wp2
            go_roundw
            case rel => exact ⟨j1 + 1, _, hb3, rfl, O4, ⟨by rw [swapL_len]; exact hLn.out⟩, e1, P4, C4⟩
            case measure => have := hkj.out; simp [intOf]; omega
      · have hb2 : decide ((j1 : Int) + 1 < (m : Int)) = false := by simp; omega
        have hb2i : ¬ ((j1 : Int) + 1 < (m : Int)) := by omega
        have hjj : Kp (kid l' m j1 = j1) := ⟨by unfold kid; rw [if_neg (by omega)]⟩
        clear hml
        have E := Kp.mk (hE.out _ hjj.out)
        have hml2 := meth_less wr p _ hP.out
        have HL2 := Kp.mk (less_any wr g n c (j1) k _ _ hj1b hk hn (HK.out _ hj1b) (HK.out _ hk))
        go_wp2_with fail
        refine HL2.out.mono ?_
        rintro e2 wb ⟨rfl, hbb⟩
        have O3 := Kp.mk (hO.out.frame (Chg.of_below hbb NoF) (fun _ _ h => h))
        have P3 : Kp (wb.cell? ⟨p, 0, none⟩ = some (.slice (some ⟨g, 0, none⟩) n c)) := ⟨(hbb.cell (World.block_lt_of_cell? wr _ hP.out)).trans hP.out⟩
        have C3 : Kp (Chg (fun x => x = g) w wb) := ⟨hC.out.then (Chg.of_below hbb _)⟩
        clear hml2 hbb HL2
        cases hlb2 : lessB (gt l' (j1)) (gt l' k)
        · have e1 : Kp ((downL l m i0).2 = k ∧ (downL l m i0).1 = l') := ⟨by rw [← hU.out, E.out, hlb2]; exact ⟨rfl, rfl⟩⟩
          clear hlb2
          go_wp2
          go_ret
          rw [e1.out.1, e1.out.2]
          exact ⟨rfl, O3.out, C3.out⟩
        · have e1 : Kp (downL (swapL l' k (j1) (gt l' k) (gt l' (j1))) m (j1) = downL l m i0) := ⟨by rw [← hU.out, E.out, hlb2]; rfl⟩
          have HSW := Kp.mk (swap_any wb g n c k (j1) l' _ _ O3.out hLn.out (gt_at _ _ (by have := hLn.out; omega)) (gt_at _ _ (by have := hLn.out; omega)) hn)
          have hms := meth_swap wb p _ P3.out
          clear hlb2
          go_wp2_with fail
          refine HSW.out.mono ?_
          rintro e3 wc ⟨⟨v, rfl⟩, o4, c4⟩
          have O4 := Kp.mk o4
          have C4 : Kp (Chg (fun x => x = g) w wc) := ⟨C3.out.then c4⟩
          have P4 : Kp (wc.cell? ⟨p, 0, none⟩ = some (.slice (some ⟨g, 0, none⟩) n c)) := ⟨by
            have h1 := P3.out
            have hlt := World.block_lt_of_cell? wb _ h1
            have h2 := c4.block p hlt hpg
            simp only [World.cell?] at h1 ⊢
            rw [h2]; exact h1⟩
          clear o4 c4 hms HSW
          go_wp2
          go_roundw
          case rel => exact ⟨j1, _, hj1b, rfl, O4, ⟨by rw [swapL_len]; exact hLn.out⟩, e1, P4, C4⟩
          case measure => have := hkj.out; simp [intOf]; omega
end Go.Proofs.Ytobgabjoehjpcaa
