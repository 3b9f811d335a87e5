/- What up of container/heap does over package timer's queue; no condition but bounds. -/
import Derived.Test.YtobgabjoehjpcaaZ
namespace Go.Proofs.Ytobgabjoehjpcaa
open Go.RowKit

def upL (l : List Ent) (j : Nat) : List Ent :=
  if j = 0 then l else
    match l[j]?, l[(j - 1) / 2]? with
    | some a, some b => if lessB a b then upL (swapL l ((j - 1) / 2) j b a) ((j - 1) / 2) else l
    | _, _ => l
termination_by j
decreasing_by omega
theorem swapL_len (l : List Ent) (i j : Nat) (a b : Ent) : (swapL l i j a b).length = l.length := by simp [swapL]
set_option maxRecDepth 100000 in
set_option maxHeartbeats 2000000 in
theorem up_any (w : World) (p g n c j : Nat) (l : List Ent) (hp : w.cell? ⟨p, 0, none⟩ = some (.slice (some ⟨g, 0, none⟩) n c)) (hpg : p ≠ g) (ho : Own w 60 eEnt (.slice (some ⟨g, 0, none⟩) n c) l) (hl : n = l.length) (hj : j < n) (hn : n ≤ 1000000) :
    Calls Try.prog 40 #[.iface 62 (.pointer (some ⟨p, 0, none⟩)), .int .i64 j] w fun e w' => (∃ v, e = .returned v) ∧ Own w' 60 eEnt (.slice (some ⟨g, 0, none⟩) n c) (upL l j) ∧ Chg (fun x => x = g) w w' := by
  have HP : Kp (w.cell? ⟨p, 0, none⟩ = some (.slice (some ⟨g, 0, none⟩) n c)) := ⟨hp⟩
  have HO := Kp.mk ho
  have HL := Kp.mk hl
  clear hp ho hl
  go_enter Try.func40, Try.ntmps40
  go_wp2
  go_loopw [1, 4] (fun jv iv wr => ∃ (k : Nat) (l' : List Ent), k < n ∧ jv = .int .i64 k ∧ (∃ u, iv = u) ∧ Kp (Own wr 60 eEnt (.slice (some ⟨g, 0, none⟩) n c) l') ∧ Kp (n = l'.length) ∧ Kp (upL l' k = upL l j) ∧ Kp (wr.cell? ⟨p, 0, none⟩ = some (.slice (some ⟨g, 0, none⟩) n c)) ∧ Kp (Chg (fun x => x = g) w wr)) (fun jv _ _ => (intOf jv).toNat)
  case atStart => exact ⟨j, l, hj, rfl, ⟨_, rfl⟩, HO, HL, ⟨rfl⟩, HP, ⟨Chg.refl _ _⟩⟩
  case round =>
    obtain ⟨k, l', hk, rfl, ⟨u0, rfl⟩, hO, hLn, hU, hP, hC⟩ := hrel
    have hm := meth_less wr p _ hP.out
    have hms := meth_swap wr p _ hP.out
    cases k with
    | zero =>
      have hne : ((0 : Int) == 0) = true := rfl
      have e : Kp (upL l' 0 = l') := ⟨by unfold upL; rw [if_pos rfl]⟩
      go_wp2
      go_end0
      exact ⟨⟨_, rfl⟩, by rw [← hU.out, e.out]; exact hO.out, hC.out⟩
    | succ m =>
      obtain ⟨i, hi⟩ : ∃ i, i = m / 2 := ⟨_, rfl⟩
      have hkl : m + 1 < l'.length := by have := hLn.out; omega
      have hil : i < l'.length := by omega
      obtain ⟨a, ha⟩ : ∃ a, l'[m + 1]? = some a := ⟨_, List.getElem?_eq_getElem hkl⟩
      obtain ⟨b, hb⟩ : ∃ b, l'[i]? = some b := ⟨_, List.getElem?_eq_getElem hil⟩
      have hq : (m : Int) / 2 = (i : Int) := by omega
      have hne : ((i : Int) == (m : Int) + 1) = false := by simp; omega
      have hiN : i < n := by omega
      have HLS := Kp.mk (less_any wr g n c (m + 1) i a b hk hiN hn (hO.out.ent _ a ha) (hO.out.ent _ b hb))
      have e : Kp (upL l' (m + 1) = if lessB a b then upL (swapL l' i (m + 1) b a) i else l') := ⟨by
        conv => lhs; unfold upL
        rw [if_neg (by omega), ha, show (m + 1 - 1) / 2 = i by omega, hb]⟩
      have HA := Kp.mk ha
      have HB := Kp.mk hb
      have hik : Kp (i < m + 1) := ⟨by omega⟩
      clear hi ha hb hkl hil
      go_wp2_with fail
      refine HLS.out.mono ?_
      rintro e1 w2 ⟨rfl, hb2⟩
      have O2 := Kp.mk (hO.out.frame (Chg.of_below hb2 NoF) (fun _ _ h => h))
      have hp2 : w2.cell? ⟨p, 0, none⟩ = some (.slice (some ⟨g, 0, none⟩) n c) := (hb2.cell (World.block_lt_of_cell? wr _ hP.out)).trans hP.out
      have C2 : Kp (Chg (fun x => x = g) w w2) := ⟨hC.out.then (Chg.of_below hb2 _)⟩
      have P2 := Kp.mk hp2
      have hms2 := meth_swap w2 p _ hp2
      clear hm hms hb2 hp2
      cases hlb : lessB a b
      · rw [hlb] at e
        go_wp2
        go_end0
        exact ⟨⟨_, rfl⟩, by have h9 := hU.out; rw [e.out] at h9; rw [← h9]; exact O2.out, C2.out⟩
      · rw [hlb] at e
        have HSW := Kp.mk (swap_any w2 g n c i (m + 1) l' b a O2.out hLn.out HB.out HA.out hn)
        go_wp2_with fail
        refine HSW.out.mono ?_
        rintro e2 w3 ⟨⟨v, rfl⟩, o3, c3⟩
        have O3 := Kp.mk o3
        have C3 : Kp (Chg (fun x => x = g) w w3) := ⟨C2.out.then c3⟩
        have P3 : Kp (w3.cell? ⟨p, 0, none⟩ = some (.slice (some ⟨g, 0, none⟩) n c)) := ⟨by
          have h1 := P2.out
          have hlt := World.block_lt_of_cell? w2 _ h1
          have h2 := c3.block p hlt hpg
          simp only [World.cell?] at h1 ⊢
          rw [h2]; exact h1⟩
        clear o3 c3 hms2
        go_wp2
        go_roundw
        case rel => exact ⟨i, _, hiN, rfl, ⟨_, rfl⟩, O3, ⟨by rw [swapL_len]; exact hLn.out⟩, ⟨by rw [← hU.out, e.out]; rfl⟩, P3, C3⟩
        case measure => have := hik.out; simp [intOf]; omega
end Go.Proofs.Ytobgabjoehjpcaa
