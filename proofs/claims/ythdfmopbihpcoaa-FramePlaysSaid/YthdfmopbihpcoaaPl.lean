/- FramePlays walked: it answers true, and writes nothing that was there; its bounds stand in the statement. -/
import Derived.Test.YthdfmopbihpcoaaSt
import Derived.Test.YthdfmopbihpcoaaCp
import Derived.Test.YthdfmopbihpcoaaAl
namespace Go.Proofs.Ythdfmopbihpcoaa
open Go.RowKit

theorem IsSt.lt {w : World} {p : Nat} {fv sv : Value} {s : StM} {rs : List Rec} (h : IsSt w p fv sv s rs) (g : Nat) (hg : FS p fv sv g) : g < w.heap.size := by
  rcases hg with rfl | hg | hg
  · exact lt_of_block h.blk
  · exact h.f.lt hg
  · exact h.sl.lt hg
theorem IsRf.ty2 {B B' : Bd} {w w' : World} {q : Nat} {fv : Value} {s : StM} {rr : List RR} (h : IsRf B w q fv s rr) {L : List Nat} (hL : 69 ∉ L ∧ 63 ∉ L ∧ 66 ∉ L) (hc : Chg (Ty B' L w) w w') : IsRf B w' q fv s rr :=
  h.frame hc fun g ⟨_, cur, T, h1, h2⟩ ⟨_, cur', T', h3, h4⟩ => by
    rw [h1] at h3
    cases h3
    simp at h2
    rcases h2 with rfl | rfl | rfl
    · exact hL.1 h4
    · exact hL.2.1 h4
    · exact hL.2.2 h4
/-- What has been made since w is kept apart from now on. -/
theorem Bo.gap {B : Bd} {w w2 : World} {p q : Nat} {s : StM} (h : Bo B w p q s) (hlo : B.lo = 0) (hhi : B.hi = 0) (hb : Below w.heap.size w w2) : Bo ⟨B.b, w.heap.size, w2.heap.size⟩ w2 p q s := by
  have hsz := hb.size
  have aux : ∀ g, B.In g → g < w.heap.size → (⟨B.b, w.heap.size, w2.heap.size⟩ : Bd).In g := fun g h1 h2 => ⟨h1.1, fun h3 => by have := h3.1; simp only at this; omega⟩
  refine ⟨?_, ?_, h.inv⟩
  · obtain ⟨fv, sv, rs, hI, hF⟩ := h.st
    exact ⟨fv, sv, rs, hI.below hb, fun g hg => ⟨aux g (hF g hg).1 (hI.lt g hg), Nat.le_refl _⟩⟩
  · obtain ⟨fv, rr, hI⟩ := h.rf
    have hJ := hI.below hb
    refine ⟨fv, rr, ⟨hJ.blk, hJ.x16, hJ.f, hJ.len, hJ.each, ⟨aux _ hI.hq.1 (lt_of_block hI.blk), Nat.le_refl _⟩, fun g hg => aux g (hI.hf g hg) (hI.f.lt hg), fun k r g hr hg => ?_, hJ.sep⟩⟩
    obtain ⟨f, _, _, _, ho⟩ := hI.at_ k r hr
    exact aux g (hI.hr k r g hr hg) (ho.lt hg)
/-- A copy that is kept apart, and what the reference told when it was made. -/
structure Gap (lo hi : Nat) (w : World) (g : Nat) (sc : StM) (A : Option Addr) (n c : Nat) : Prop where
  st : ∃ fv sv rs, IsSt w g fv sv sc rs ∧ ∀ x, FS g fv sv x → lo ≤ x ∧ x < hi
  own : Own w 29 eU64 (.slice A n c) (onW (cellsOf sc))
  ob : ∀ x, (Value.slice A n c).ownBlock = some x → lo ≤ x ∧ x < hi
  inv : Inv sc
  len : n = (onW (cellsOf sc)).length
theorem Gap.frame {lo hi : Nat} {w w' : World} {g : Nat} {sc : StM} {A : Option Addr} {n c : Nat} (h : Gap lo hi w g sc A n c) {F : Nat → Prop} (hc : Chg F w w') (hF : ∀ x, F x → ¬ (lo ≤ x ∧ x < hi)) : Gap lo hi w' g sc A n c := by
  obtain ⟨fv, sv, rs, hI, hX⟩ := h.st
  exact ⟨⟨fv, sv, rs, hI.frame hc (fun e => hF g e (hX g (.inl rfl))) (fun x hx e => hF x e (hX x (.inr (.inl hx)))) (fun x hx e => hF x e (hX x (.inr (.inr hx)))), hX⟩,
    h.own.frame hc (fun x hx e => hF x e (h.ob x hx)), h.ob, h.inv, h.len⟩
theorem Gap.below {lo hi : Nat} {w w' : World} {g : Nat} {sc : StM} {A : Option Addr} {n c : Nat} (h : Gap lo hi w g sc A n c) (hc : Below w.heap.size w w') : Gap lo hi w' g sc A n c := h.frame (Chg.of_below hc NoF) (fun _ h => h.elim)
theorem Gap.bel {B : Bd} {w w' : World} {g : Nat} {sc : StM} {A : Option Addr} {n c : Nat} (h : Gap B.lo B.hi w g sc A n c) (hc : Bel B w w') : Gap B.lo B.hi w' g sc A n c := h.frame hc.out (fun _ h => h.2)
theorem Gap.St {lo hi : Nat} {w : World} {g : Nat} {sc : StM} {A : Option Addr} {n c m : Nat} (h : Gap lo hi w g sc A n c) (hm : m ≤ w.heap.size) : St ⟨lo, hi, m⟩ w g sc := by
  obtain ⟨fv, sv, rs, hI, hX⟩ := h.st
  exact ⟨fv, sv, rs, hI, fun x hx => ⟨⟨(hX x hx).1, fun h3 => by have h4 := (hX x hx).2; have h5 := h3.1; simp only at h5; omega⟩, hm⟩⟩
/-- The loop's head. -/
def PlR (w0 : World) (cut : Int) (k p q : Nat) (cv v : Value) (wr : World) : Prop :=
  ∃ (B : Bd) (s : StM), B.b = w0.heap.size ∧ Bo B wr p q s ∧ Below w0.heap.size w0 wr ∧
    ((cv = .pointer none ∧ v = .slice none 0 0 ∧ B.lo = 0 ∧ B.hi = 0 ∧ ¬ (0 ≤ cut ∧ cut < k)) ∨
     (0 ≤ cut ∧ cut < k ∧ w0.heap.size ≤ B.lo ∧ ∃ g A n c sc, cv = .pointer (some ⟨g, 0, none⟩) ∧ v = .slice A n c ∧ Gap B.lo B.hi wr g sc A n c))
theorem s_most {B : Bd} (w : World) (p : Nat) (s : StM) (most : Int) (h : St B w p s) (hi : Inv s) : Calls Try.prog 10 #[.pointer (some ⟨p, 0, none⟩), .int .i64 most] w fun e w' => ∃ A c, e = .returned (.slice A (cutMost most (onW (cellsOf s))).length c) ∧ Own w' 29 eU64 (.slice A (cutMost most (onW (cellsOf s))).length c) (cutMost most (onW (cellsOf s))) ∧ Below w.heap.size w w' := by
  obtain ⟨fv, sv, rs, h1, _⟩ := h
  refine (allOf_any w p fv sv s rs most h1 (by have := hi.n; omega) (by have := hi.all; omega)).mono ?_
  rintro e w' ⟨v, rfl, ho, hf, hb⟩
  obtain ⟨A, c, hv, _⟩ := ho.shape
  subst hv
  exact ⟨A, c, rfl, ho, hb⟩
theorem cut2_long {ws : List Int} (h : 2 < ws.length) : cutMost 2 ws = ws.take 2 := by unfold cutMost; rw [if_pos ⟨by decide, by omega⟩]; rfl
theorem cut2_short {ws : List Int} (h : ws.length ≤ 2) : cutMost 2 ws = ws := by
  unfold cutMost
  split
  · exact List.take_of_length_le h
  · rfl
set_option maxRecDepth 100000 in
set_option maxHeartbeats 40000000 in
theorem plays_any (w : World) (ops : List OpM) (cut : Int) (A1 : Option Addr) (c1 : Nat) (h1 : Src w eOp A1 c1 ops) (hw : ∀ o ∈ ops, BringsW w o) (hm : ops.length ≤ 9000000000000) :
    Calls Try.prog 5 #[.slice A1 ops.length c1, .int .i64 cut] w fun e w' => e = .returned (.bool true) ∧ Below w.heap.size w w' := by
  have H1 := Kp.mk h1
  have HW := Kp.mk hw
  obtain ⟨B0, hB, hBl, hBh⟩ : ∃ B : Bd, B.b = w.heap.size ∧ B.lo = 0 ∧ B.hi = 0 := ⟨⟨_, 0, 0⟩, rfl, rfl, rfl⟩
  have hok : B0.Ok w := ⟨by omega, by omega⟩
  have HOK := Kp.mk hok
  have HBE := Kp.mk (And.intro hB (And.intro hBl hBh))
  clear h1 hw hB hBl hBh hok
  go_enter Try.func5, Try.ntmps5
  go_wp2_with fail
  refine (s_new (B := B0) w HOK.out).mono ?_
  rintro e w1 ⟨p, rfl, st1, hb1⟩
  have ST1 := Kp.mk st1
  have HB1 := Kp.mk hb1
  clear st1 hb1
  go_wp2_with fail
  refine (r_new (B := B0) w1 (HOK.out.up HB1.out.size)).mono ?_
  rintro e w2 ⟨q, rfl, rf2, hb2⟩
  have HP : Kp (PlR w cut 0 p q (.pointer none) (.slice none 0 0) w2) := ⟨B0, newSt, HBE.out.1, ⟨ST1.out.below hb2, rf2, Inv.new⟩, bstep HB1.out HB1.out.size hb2, .inl ⟨rfl, rfl, HBE.out.2.1, HBE.out.2.2, by omega⟩⟩
  clear rf2 hb2 ST1 HB1 HBE HOK
  go_wp2_with fail
  go_loopw [7, 8, 9] (fun cv v i wr => ∃ (k : Nat), k ≤ ops.length ∧ i = .int .i64 k ∧ Kp (PlR w cut k p q cv v wr)) (fun _ _ i _ => ops.length - (intOf i).toNat)
  case atStart => exact ⟨0, Nat.zero_le _, rfl, HP⟩
  case round =>
    clear HP
    obtain ⟨k, hk, rfl, hP⟩ := hrel
    obtain ⟨B, s, hBb, hbo, hbel, hc⟩ := hP.out
    have HBb := Kp.mk hBb
    have BO := Kp.mk hbo
    have HBEL := Kp.mk hbel
    clear hBb hbo hbel hP
    by_cases hlt : k < ops.length
    · cases A1 with
      | none => have := (H1.out.none rfl).1; subst this; simp at hlt
      | some x =>
        obtain ⟨g, o, rfl⟩ := H1.out.addr (by omega)
        obtain ⟨x, hx⟩ : ∃ x, x = ops[k] := ⟨_, rfl⟩
        have k0 : (0 : Int) ≤ (k : Int) := by omega
        have k1 : (k : Int) < (ops.length : Int) := by omega
        have HE : Kp (∀ W, Below w.heap.size w W → W.cell? ⟨g, o + k * 4, none⟩ = some (.int .i64 x.kind) ∧ W.cell? ⟨g, o + k * 4 + 1, none⟩ = some (.int .i64 x.n) ∧ W.cell? ⟨g, o + k * 4 + 2, none⟩ = some (.int .u64 x.w) ∧ W.cell? ⟨g, o + k * 4 + 3, none⟩ = some (.slice x.A x.m x.c)) := ⟨fun W hW => by
          have hs := H1.out.below hW
          have e0 : W.cell? ⟨g, o + k * 4, none⟩ = some (.int .i64 x.kind) := by have := hs.elem k 0 hlt (by decide); rw [← hx] at this; simpa [eOp] using this
          have e1 : W.cell? ⟨g, o + k * 4 + 1, none⟩ = some (.int .i64 x.n) := by have := hs.elem k 1 hlt (by decide); rw [← hx] at this; simpa [eOp, Nat.add_assoc] using this
          have e2 : W.cell? ⟨g, o + k * 4 + 2, none⟩ = some (.int .u64 x.w) := by have := hs.elem k 2 hlt (by decide); rw [← hx] at this; simpa [eOp, Nat.add_assoc] using this
          have e3 : W.cell? ⟨g, o + k * 4 + 3, none⟩ = some (.slice x.A x.m x.c) := by have := hs.elem k 3 hlt (by decide); rw [← hx] at this; simpa [eOp, Nat.add_assoc] using this
          exact ⟨e0, e1, e2, e3⟩⟩
        have HX : Kp (∀ (B' : Bd) (W : World), B'.b = w.heap.size → Bo B' W p q s → Below w.heap.size w W → Calls Try.prog 9 #[.pointer (some ⟨p, 0, none⟩), .pointer (some ⟨q, 0, none⟩), .agg #[.int .i64 x.kind, .int .i64 x.n, .int .u64 x.w, .slice x.A x.m x.c]] W (SwStep B' W p q)) := ⟨fun B' W hb' hbo' hW => by
          obtain ⟨ys, hyl, hys, hmx⟩ := HW.out x (by rw [hx]; exact List.getElem_mem _)
          exact step_some W p q s x ys hbo' hmx hyl (fun w' hw' => hys.below (by rw [← hb'] at hW ⊢; exact hW.trans (hw'.below hbo'.st.le)))⟩
        clear hx
        rcases hc with hc | hc
        · obtain ⟨rfl, rfl, hlo, hhi, hno⟩ := hc
          by_cases hkc : (k : Int) = cut
          · have hkb : ((k : Int) == cut) = true := by simpa using hkc
            have HLO := Kp.mk hlo
            have HHI := Kp.mk hhi
            have HKC := Kp.mk hkc
            clear hlo hhi hno hkc
            obtain ⟨fv, sv, rs, hI, _⟩ := BO.out.st
            have HCP := Kp.mk (copy_any wr p fv sv s rs hI (by have := BO.out.inv.n; omega) (by have := BO.out.inv.all; omega))
            clear hI
            go_wp2_with fail
            refine HCP.out.mono ?_
            rintro e w3 ⟨cg, fc, sc, rc, rfl, hcg, hIc, hfc, hsc, hb3⟩
            obtain ⟨fvr, rr, hr⟩ := (BO.out.below hb3).rf
            have HAL := Kp.mk (rall_any w3 q fvr s rr hr (by have := BO.out.inv.n; omega) (by have := BO.out.inv.all; omega))
            have HB3 := Kp.mk hb3
            have HIC := Kp.mk hIc
            have HFC : Kp (∀ g, FS cg fc sc g → wr.heap.size ≤ g) := ⟨fun g hg => by
              rcases hg with rfl | hg | hg
              · exact hcg
              · exact hfc g hg
              · exact hsc g hg⟩
            clear hr hb3 hIc hfc hsc hcg HCP
            go_wp2_with fail
            refine HAL.out.mono ?_
            rintro e w4 ⟨Ax, cx, rfl, ox, hfx, hb4⟩
            have hb34 := bstep HB3.out HB3.out.size hb4
            have BO' : Kp (Bo ⟨B.b, wr.heap.size, w4.heap.size⟩ w4 p q s) := ⟨BO.out.gap HLO.out HHI.out hb34⟩
            have HGAP : Kp (Gap wr.heap.size w4.heap.size w4 cg s Ax (onW (cellsOf s)).length cx) := ⟨⟨fc, sc, rc, HIC.out.below hb4, fun x hx => ⟨HFC.out x hx, Nat.lt_of_lt_of_le (HIC.out.lt x hx) hb4.size⟩⟩, ox, fun x hx => ⟨Nat.le_trans HB3.out.size (hfx x hx), ox.lt hx⟩, BO.out.inv, rfl⟩
            have HBEL' : Kp (Below w.heap.size w w4) := ⟨bstep HBEL.out HBEL.out.size hb34⟩
            have HSZ : Kp (w.heap.size ≤ wr.heap.size) := ⟨HBEL.out.size⟩
            clear hb4 hb34 ox hfx HAL HIC HFC HB3
            have hce := HE.out w4 HBEL'.out
            obtain ⟨e0, e1, e2, e3⟩ := hce
            have HXW := Kp.mk (HX.out ⟨B.b, wr.heap.size, w4.heap.size⟩ w4 HBb.out BO'.out HBEL'.out)
            clear HX HE
            go_wp2_with fail
            refine HXW.out.mono ?_
            rintro e w5 ⟨s', rfl, hbo5, hb5⟩
            have BO5 := Kp.mk hbo5
            have HBEL5 : Kp (Below w.heap.size w w5) := ⟨by have h9 := hb5.below BO'.out.st.le; rw [← HBb.out] at *; exact HBEL'.out.trans h9⟩
            have HAK := Kp.mk (alike_any w5 p q s' hbo5)
            have B5S := Kp.mk hb5
            clear hbo5 hb5 HXW e0 e1 e2 e3
            go_wp2_with fail
            refine HAK.out.mono ?_
            rintro e w6 ⟨rfl, hbo6, hb6⟩
            have BELS := Kp.mk (B5S.out.trans hb6)
            have HPR : Kp (PlR w cut (k + 1) p q _ _ w6) := ⟨⟨B.b, wr.heap.size, w4.heap.size⟩, s', HBb.out, hbo6, by have h9 := hb6.below BO5.out.st.le; rw [← HBb.out] at *; exact HBEL5.out.trans h9, .inr ⟨by have := HKC.out; omega, by have := HKC.out; omega, HSZ.out, cg, Ax, _, cx, s, rfl, rfl, HGAP.out.bel (B := ⟨B.b, wr.heap.size, w4.heap.size⟩) BELS.out⟩⟩
            clear hbo6 hb6 HAK B5S
            go_wp2
            go_roundw
            case rel => exact ⟨k + 1, by omega, by go_num, HPR⟩
            case measure => simp [intOf]; omega
          · have hkb : ((k : Int) == cut) = false := by simpa using hkc
            have HNO : Kp (¬ (0 ≤ cut ∧ cut < ((k + 1 : Nat) : Int))) := ⟨by omega⟩
            have HLO := Kp.mk hlo
            have HHI := Kp.mk hhi
            clear hlo hhi hno hkc
            have hce := HE.out wr HBEL.out
            obtain ⟨e0, e1, e2, e3⟩ := hce
            have HXW := Kp.mk (HX.out B wr HBb.out BO.out HBEL.out)
            clear HX HE
            go_wp2_with fail
            refine HXW.out.mono ?_
            rintro e w5 ⟨s', rfl, hbo5, hb5⟩
            have BO5 := Kp.mk hbo5
            have HBEL5 : Kp (Below w.heap.size w w5) := ⟨by have h9 := hb5.below BO.out.st.le; rw [← HBb.out] at *; exact HBEL.out.trans h9⟩
            have HAK := Kp.mk (alike_any w5 p q s' hbo5)
            have B5S := Kp.mk hb5
            clear hbo5 hb5 HXW e0 e1 e2 e3
            go_wp2_with fail
            refine HAK.out.mono ?_
            rintro e w6 ⟨rfl, hbo6, hb6⟩
            have BELS := Kp.mk (B5S.out.trans hb6)
            have HPR : Kp (PlR w cut (k + 1) p q _ _ w6) := ⟨B, s', HBb.out, hbo6, by have h9 := hb6.below BO5.out.st.le; rw [← HBb.out] at *; exact HBEL5.out.trans h9, .inl ⟨rfl, rfl, HLO.out, HHI.out, HNO.out⟩⟩
            clear hbo6 hb6 HAK B5S
            go_wp2
            go_roundw
            case rel => exact ⟨k + 1, by omega, by go_num, HPR⟩
            case measure => simp [intOf]; omega
        · obtain ⟨hc0, hck, hlo, cg, Ax, nx, cx, sc, rfl, rfl, hgap⟩ := hc
          have hkb : ((k : Int) == cut) = false := by simp; omega
          have HGAP := Kp.mk hgap
          have HLO := Kp.mk hlo
          clear hlo hgap
          have hce := HE.out wr HBEL.out
          obtain ⟨e0, e1, e2, e3⟩ := hce
          have HXW := Kp.mk (HX.out B wr HBb.out BO.out HBEL.out)
          clear HX HE
          go_wp2_with fail
          refine HXW.out.mono ?_
          rintro e w5 ⟨s', rfl, hbo5, hb5⟩
          have BO5 := Kp.mk hbo5
          have HBEL5 : Kp (Below w.heap.size w w5) := ⟨by have h9 := hb5.below BO.out.st.le; rw [← HBb.out] at *; exact HBEL.out.trans h9⟩
          have HAK := Kp.mk (alike_any w5 p q s' hbo5)
          have B5S := Kp.mk hb5
          clear hbo5 hb5 HXW e0 e1 e2 e3
          go_wp2_with fail
          refine HAK.out.mono ?_
          rintro e w6 ⟨rfl, hbo6, hb6⟩
          have BELS := Kp.mk (B5S.out.trans hb6)
          have HPR : Kp (PlR w cut (k + 1) p q _ _ w6) := ⟨B, s', HBb.out, hbo6, by have h9 := hb6.below BO5.out.st.le; rw [← HBb.out] at *; exact HBEL5.out.trans h9, .inr ⟨hc0, by omega, HLO.out, cg, Ax, nx, cx, sc, rfl, rfl, HGAP.out.bel BELS.out⟩⟩
          clear hbo6 hb6 HAK B5S
          go_wp2
          go_roundw
          case rel => exact ⟨k + 1, by omega, by go_num, HPR⟩
          case measure => simp [intOf]; omega
    · have hd5 : decide ((k : Int) < ops.length) = false := by simp; omega
      have hdf : ¬ ((k : Int) < ops.length) := by omega
      have hkl : k = ops.length := by omega
      rcases hc with hc | hc
      · obtain ⟨rfl, rfl, _, _, hno⟩ := hc
        rw [hkl] at hno
        clear hkl
        by_cases h0 : 0 ≤ cut
        · have h0d : decide (0 ≤ cut) = true := by simpa using h0
          have h1d : decide (cut < (ops.length : Int)) = false := by simp; omega
          have h1n : ¬ (cut < (ops.length : Int)) := by omega
          obtain ⟨fvt, rt, hrt⟩ := BO.out.rf
          obtain ⟨wt, hwt⟩ : ∃ l, l = onW (cellsOf s) := ⟨_, rfl⟩
          obtain ⟨nt, hnt⟩ : ∃ n, n = wt.length := ⟨_, rfl⟩
          have HALT := Kp.mk (rall_any wr q fvt s rt hrt (by have := BO.out.inv.n; omega) (by have := BO.out.inv.all; omega))
          unfold RAllPost at HALT
          rw [← hwt, ← hnt] at HALT
          have HWT := Kp.mk hwt
          have HNT := Kp.mk hnt
          have hn1040 : nt ≤ 1040 := by rw [hnt, hwt]; exact onW_1040 BO.out.inv
          clear hrt hwt hnt
          go_wp2_with fail
          refine HALT.out.mono ?_
          rintro e wa ⟨At, ct, rfl, ot, _, hba⟩
          have BOA := Kp.mk (BO.out.below hba)
          have HBELA := Kp.mk (bstep HBEL.out HBEL.out.size hba)
          have OT := Kp.mk ot
          obtain ⟨_, ct2, hv2, hct, _, ht0, ht1⟩ := ot.shape
          obtain rfl : ct = ct2 := by cases hv2; rfl
          rw [← HNT.out] at hct
          have HMO := Kp.mk (s_most wa p s 2 BOA.out.st BOA.out.inv)
          rw [← HWT.out] at HMO
          by_cases hn2 : 2 < nt
          · have hn2d : decide ((2 : Int) < (nt : Int)) = true := by simp; omega
            have hn2i : (2 : Int) < (nt : Int) := by omega
            have hc2 : (2 : Int) ≤ (ct : Int) := by omega
            have hc2n : 2 ≤ ct := by omega
            obtain ⟨gt, rfl⟩ : ∃ g, At = some ⟨g, 0, none⟩ := by
              obtain ⟨A2, c2, hv3, _, _, hs0, hs1⟩ := OT.out.shape
              have ea : At = A2 := by injection hv3
              cases hA : A2 with
              | none => have h1 := (hs0 hA).1; have h2 := HNT.out; rw [h1] at h2; simp at h2; omega
              | some x => obtain ⟨g, rfl⟩ := hs1 x hA; exact ⟨g, by rw [ea, hA]⟩
            have OT2 := Kp.mk (OT.out.take 2 (by have := HNT.out; omega))
            have hlen2 : (wt.take 2).length = 2 := by have := HNT.out; simp; omega
            rw [cut2_long (by have := HNT.out; omega), hlen2] at HMO
            have HLEN2 := Kp.mk hlen2
            clear hba ot hv2 ht0 ht1 HALT hlen2
            go_wp2_with fail
            refine HMO.out.mono ?_
            rintro e wb ⟨Ab, cb, rfl, ob, hbb⟩
            have ot3 := OT2.out.frame (Chg.of_below hbb NoF) (fun _ _ h => h)
            have HEQT := Kp.mk (words_eq wb (wt.take 2) Ab _ cb ct (ob.src rfl) (ot3.src rfl) (by have := HLEN2.out; omega))
            rw [HLEN2.out] at HEQT
            have BOB := Kp.mk (BOA.out.below hbb)
            have HBELB := Kp.mk (bstep HBELA.out HBELA.out.size hbb)
            clear hbb ob ot3 HMO
            go_wp2_with fail
            refine HEQT.out.mono ?_
            rintro e wc ⟨rfl, hbc⟩
            have HBELC := Kp.mk (bstep HBELB.out HBELB.out.size hbc)
            clear hbc HEQT
            go_wp2_with fail
            refine (known_any wc).mono ?_
            rintro e wd ⟨rfl, hbd⟩
            have HBELD := Kp.mk (bstep HBELC.out HBELC.out.size hbd)
            clear hbd
            go_wp2
            go_ret
            exact ⟨rfl, HBELD.out⟩
          · have hn2d : decide ((2 : Int) < (nt : Int)) = false := by simp; omega
            have hn2i : ¬ ((2 : Int) < (nt : Int)) := by omega
            rw [cut2_short (by have := HNT.out; omega), ← HNT.out] at HMO
            clear hba ot hv2 ht0 ht1 HALT hct
            go_wp2_with fail
            refine HMO.out.mono ?_
            rintro e wb ⟨Ab, cb, rfl, ob, hbb⟩
            have ot3 := OT.out.frame (Chg.of_below hbb NoF) (fun _ _ h => h)
            have HEQT := Kp.mk (words_eq wb wt Ab At cb ct (ob.src rfl) (ot3.src rfl) (by have := HNT.out; omega))
            rw [← HNT.out] at HEQT
            have BOB := Kp.mk (BOA.out.below hbb)
            have HBELB := Kp.mk (bstep HBELA.out HBELA.out.size hbb)
            clear hbb ob ot3 HMO
            go_wp2_with fail
            refine HEQT.out.mono ?_
            rintro e wc ⟨rfl, hbc⟩
            have HBELC := Kp.mk (bstep HBELB.out HBELB.out.size hbc)
            clear hbc HEQT
            go_wp2_with fail
            refine (known_any wc).mono ?_
            rintro e wd ⟨rfl, hbd⟩
            have HBELD := Kp.mk (bstep HBELC.out HBELC.out.size hbd)
            clear hbd
            go_wp2
            go_ret
            exact ⟨rfl, HBELD.out⟩
        · have h0d : decide (0 ≤ cut) = false := by simpa using h0
          obtain ⟨fvt, rt, hrt⟩ := BO.out.rf
          obtain ⟨wt, hwt⟩ : ∃ l, l = onW (cellsOf s) := ⟨_, rfl⟩
          obtain ⟨nt, hnt⟩ : ∃ n, n = wt.length := ⟨_, rfl⟩
          have HALT := Kp.mk (rall_any wr q fvt s rt hrt (by have := BO.out.inv.n; omega) (by have := BO.out.inv.all; omega))
          unfold RAllPost at HALT
          rw [← hwt, ← hnt] at HALT
          have HWT := Kp.mk hwt
          have HNT := Kp.mk hnt
          have hn1040 : nt ≤ 1040 := by rw [hnt, hwt]; exact onW_1040 BO.out.inv
          clear hrt hwt hnt
          go_wp2_with fail
          refine HALT.out.mono ?_
          rintro e wa ⟨At, ct, rfl, ot, _, hba⟩
          have BOA := Kp.mk (BO.out.below hba)
          have HBELA := Kp.mk (bstep HBEL.out HBEL.out.size hba)
          have OT := Kp.mk ot
          obtain ⟨_, ct2, hv2, hct, _, ht0, ht1⟩ := ot.shape
          obtain rfl : ct = ct2 := by cases hv2; rfl
          rw [← HNT.out] at hct
          have HMO := Kp.mk (s_most wa p s 2 BOA.out.st BOA.out.inv)
          rw [← HWT.out] at HMO
          by_cases hn2 : 2 < nt
          · have hn2d : decide ((2 : Int) < (nt : Int)) = true := by simp; omega
            have hn2i : (2 : Int) < (nt : Int) := by omega
            have hc2 : (2 : Int) ≤ (ct : Int) := by omega
            have hc2n : 2 ≤ ct := by omega
            obtain ⟨gt, rfl⟩ : ∃ g, At = some ⟨g, 0, none⟩ := by
              obtain ⟨A2, c2, hv3, _, _, hs0, hs1⟩ := OT.out.shape
              have ea : At = A2 := by injection hv3
              cases hA : A2 with
              | none => have h1 := (hs0 hA).1; have h2 := HNT.out; rw [h1] at h2; simp at h2; omega
              | some x => obtain ⟨g, rfl⟩ := hs1 x hA; exact ⟨g, by rw [ea, hA]⟩
            have OT2 := Kp.mk (OT.out.take 2 (by have := HNT.out; omega))
            have hlen2 : (wt.take 2).length = 2 := by have := HNT.out; simp; omega
            rw [cut2_long (by have := HNT.out; omega), hlen2] at HMO
            have HLEN2 := Kp.mk hlen2
            clear hba ot hv2 ht0 ht1 HALT hlen2
            go_wp2_with fail
            refine HMO.out.mono ?_
            rintro e wb ⟨Ab, cb, rfl, ob, hbb⟩
            have ot3 := OT2.out.frame (Chg.of_below hbb NoF) (fun _ _ h => h)
            have HEQT := Kp.mk (words_eq wb (wt.take 2) Ab _ cb ct (ob.src rfl) (ot3.src rfl) (by have := HLEN2.out; omega))
            rw [HLEN2.out] at HEQT
            have BOB := Kp.mk (BOA.out.below hbb)
            have HBELB := Kp.mk (bstep HBELA.out HBELA.out.size hbb)
            clear hbb ob ot3 HMO
            go_wp2_with fail
            refine HEQT.out.mono ?_
            rintro e wc ⟨rfl, hbc⟩
            have HBELC := Kp.mk (bstep HBELB.out HBELB.out.size hbc)
            clear hbc HEQT
            go_wp2_with fail
            refine (known_any wc).mono ?_
            rintro e wd ⟨rfl, hbd⟩
            have HBELD := Kp.mk (bstep HBELC.out HBELC.out.size hbd)
            clear hbd
            go_wp2
            go_ret
            exact ⟨rfl, HBELD.out⟩
          · have hn2d : decide ((2 : Int) < (nt : Int)) = false := by simp; omega
            have hn2i : ¬ ((2 : Int) < (nt : Int)) := by omega
            rw [cut2_short (by have := HNT.out; omega), ← HNT.out] at HMO
            clear hba ot hv2 ht0 ht1 HALT hct
            go_wp2_with fail
            refine HMO.out.mono ?_
            rintro e wb ⟨Ab, cb, rfl, ob, hbb⟩
            have ot3 := OT.out.frame (Chg.of_below hbb NoF) (fun _ _ h => h)
            have HEQT := Kp.mk (words_eq wb wt Ab At cb ct (ob.src rfl) (ot3.src rfl) (by have := HNT.out; omega))
            rw [← HNT.out] at HEQT
            have BOB := Kp.mk (BOA.out.below hbb)
            have HBELB := Kp.mk (bstep HBELA.out HBELA.out.size hbb)
            clear hbb ob ot3 HMO
            go_wp2_with fail
            refine HEQT.out.mono ?_
            rintro e wc ⟨rfl, hbc⟩
            have HBELC := Kp.mk (bstep HBELB.out HBELB.out.size hbc)
            clear hbc HEQT
            go_wp2_with fail
            refine (known_any wc).mono ?_
            rintro e wd ⟨rfl, hbd⟩
            have HBELD := Kp.mk (bstep HBELC.out HBELC.out.size hbd)
            clear hbd
            go_wp2
            go_ret
            exact ⟨rfl, HBELD.out⟩
      · obtain ⟨hc0, hck, hlo, cg, Ax, nx, cx, sc, rfl, rfl, hgap⟩ := hc
        rw [hkl] at hck
        have h0d : decide (0 ≤ cut) = true := by simpa using hc0
        have h1d : decide (cut < (ops.length : Int)) = true := by simpa using hck
        have HGAP := Kp.mk hgap
        have HLO := Kp.mk hlo
        clear hkl hgap hlo
        obtain ⟨sw, hsw⟩ : ∃ l, l = onW (cellsOf sc) := ⟨_, rfl⟩
        have HSW := Kp.mk hsw
        have HNX : Kp (nx = sw.length) := ⟨by rw [hsw]; exact HGAP.out.len⟩
        have HA := Kp.mk (s_all wr cg sc (HGAP.out.St (m := 0) (Nat.zero_le _)) HGAP.out.inv)
        rw [← hsw, ← HNX.out] at HA
        clear hsw
        go_wp2_with fail
        refine HA.out.mono ?_
        rintro e w2 ⟨Aw, cw, rfl, ow, _, hb2⟩
        have BO2 := Kp.mk (BO.out.below hb2)
        have HG2 := Kp.mk (HGAP.out.below hb2)
        have HBEL2 := Kp.mk (bstep HBEL.out HBEL.out.size hb2)
        have ho2 := HG2.out.own
        rw [← HSW.out] at ho2
        have HEQ := Kp.mk (words_eq w2 sw Aw Ax cw cx (ow.src rfl) (ho2.src rfl) (by have := onW_1040 HGAP.out.inv; rw [HSW.out]; omega))
        rw [← HNX.out] at HEQ
        clear ow hb2 ho2 HA BO HGAP HBEL
        go_wp2_with fail
        refine HEQ.out.mono ?_
        rintro e w3 ⟨rfl, hb3⟩
        have BO3 := Kp.mk (BO2.out.below hb3)
        have HG3 := Kp.mk (HG2.out.below hb3)
        have HBEL3 := Kp.mk (bstep HBEL2.out HBEL2.out.size hb3)
        obtain ⟨fvr, rr, hr⟩ := BO3.out.rf
        have HR3 := Kp.mk hr
        have HAL := Kp.mk (rall_any w3 q fvr s rr hr (by have := BO3.out.inv.n; omega) (by have := BO3.out.inv.all; omega))
        obtain ⟨ws, hws⟩ : ∃ l, l = onW (cellsOf s) := ⟨_, rfl⟩
        have HWS := Kp.mk hws
        obtain ⟨nn, hnn⟩ : ∃ n, n = ws.length := ⟨_, rfl⟩
        have HNN := Kp.mk hnn
        unfold RAllPost at HAL
        rw [← hws, ← hnn] at HAL
        obtain ⟨fv, sv, rs, hI3, hF3⟩ := BO3.out.st
        have HI3 := Kp.mk hI3
        have HF3 := Kp.mk hF3
        obtain ⟨z, hz⟩ : ∃ z, z = w3.heap.size := ⟨_, rfl⟩
        have HZ := Kp.mk hz
        have HLT : Kp (∀ x, FS p fv sv x → x < z) := ⟨fun x hx => by rw [hz]; exact hI3.lt x hx⟩
        have HAP : Kp (∀ (W : World) (x : Nat), FS p fv sv x → ¬ Ty ⟨B.lo, B.hi, z⟩ TS W x) := ⟨fun W x hx hT => by
          have h1 := hT.1
          have h2 := (HF3.out x hx).1
          have h3 := HLT.out x hx
          simp only [Bd.In] at h1 h2
          omega⟩
        clear hb3 hr hws hnn hI3 hF3 hz HEQ BO2 HG2 HBEL2
        go_wp2_with fail
        refine HAL.out.mono ?_
        rintro e w4 ⟨Ay, cy, rfl, oy, _, hb4⟩
        have HG4 := Kp.mk (HG3.out.below hb4)
        have HI4 := Kp.mk (HI3.out.below hb4)
        have HR4 := Kp.mk (HR3.out.below hb4)
        have OY4 := Kp.mk oy
        have HBEL4 := Kp.mk (bstep HBEL3.out HBEL3.out.size hb4)
        have HZ4 : Kp (z ≤ w4.heap.size) := ⟨by rw [HZ.out]; exact hb4.size⟩
        have SC4 := Kp.mk (HG4.out.St (m := z) HZ4.out)
        clear hb4 oy HAL HG3 HI3 HR3 HBEL3
        go_wp2_with fail
        refine (s_set w4 cg sc 3 12345 SC4.out).mono ?_
        rintro e w5 ⟨rfl, st5, c5⟩
        have SC5 := Kp.mk st5
        have HI5 := Kp.mk (HI4.out.frame c5 (HAP.out _ p (.inl rfl)) (fun x hx => HAP.out _ x (.inr (.inl hx))) (fun x hx => HAP.out _ x (.inr (.inr hx))))
        have HR5 := Kp.mk (HR4.out.ty2 (L := TS) (by decide) c5)
        have OY5 := Kp.mk (OY4.out.ty (L := TS) (by decide) c5)
        have HBEL5 : Kp (Below w.heap.size w w5) := ⟨HBEL4.out.trans (((Ty.below c5 SC4.out.le).below SC4.out.le).mono HLO.out)⟩
        clear st5 c5 SC4 HI4 HR4 OY4 HBEL4
        go_wp2_with fail
        refine (s_keep w5 cg _ 0 SC5.out).mono ?_
        rintro e w6 ⟨rfl, st6, c6⟩
        have HI6 := Kp.mk (HI5.out.frame c6 (HAP.out _ p (.inl rfl)) (fun x hx => HAP.out _ x (.inr (.inl hx))) (fun x hx => HAP.out _ x (.inr (.inr hx))))
        have HR6 := Kp.mk (HR5.out.ty2 (L := TS) (by decide) c6)
        have OY6 := Kp.mk (OY5.out.ty (L := TS) (by decide) c6)
        have HBEL6 : Kp (Below w.heap.size w w6) := ⟨HBEL5.out.trans (((Ty.below c6 SC5.out.le).below SC5.out.le).mono HLO.out)⟩
        have BO6 : Kp (Bo B w6 p q s) := ⟨⟨⟨fv, sv, rs, HI6.out, fun x hx => ⟨(HF3.out x hx).1, HR6.out.hq.2⟩⟩, ⟨fvr, rr, HR6.out⟩, BO3.out.inv⟩⟩
        have HA := Kp.mk (s_all w6 p s BO6.out.st BO6.out.inv)
        rw [← HWS.out, ← HNN.out] at HA
        clear st6 c6 SC5 HI5 HR5 OY5 HBEL5
        go_wp2_with fail
        refine HA.out.mono ?_
        rintro e w7 ⟨Az, cz, rfl, oz, _, hb7⟩
        have BO7 := Kp.mk (BO6.out.below hb7)
        have HBEL7 := Kp.mk (bstep HBEL6.out HBEL6.out.size hb7)
        have oy7 := OY6.out.frame (Chg.of_below hb7 NoF) (fun _ _ h => h)
        have HEQ := Kp.mk (words_eq w7 ws Az Ay cz cy (oz.src rfl) (oy7.src rfl) (by have := onW_1040 BO3.out.inv; rw [HWS.out]; omega))
        rw [← HNN.out] at HEQ
        clear hb7 oz oy7 OY6 HA BO6 HBEL6
        go_wp2_with fail
        refine HEQ.out.mono ?_
        rintro e w8 ⟨rfl, hb8⟩
        have BO8 := Kp.mk (BO7.out.below hb8)
        have HBEL8 := Kp.mk (bstep HBEL7.out HBEL7.out.size hb8)
        clear hb8 HEQ BO7 HBEL7
        obtain ⟨fvt, rt, hrt⟩ := BO8.out.rf
        obtain ⟨wt, hwt⟩ : ∃ l, l = onW (cellsOf s) := ⟨_, rfl⟩
        obtain ⟨nt, hnt⟩ : ∃ n, n = wt.length := ⟨_, rfl⟩
        have HALT := Kp.mk (rall_any w8 q fvt s rt hrt (by have := BO8.out.inv.n; omega) (by have := BO8.out.inv.all; omega))
        unfold RAllPost at HALT
        rw [← hwt, ← hnt] at HALT
        have HWT := Kp.mk hwt
        have HNT := Kp.mk hnt
        have hn1040 : nt ≤ 1040 := by rw [hnt, hwt]; exact onW_1040 BO8.out.inv
        clear hrt hwt hnt
        go_wp2_with fail
        refine HALT.out.mono ?_
        rintro e wa ⟨At, ct, rfl, ot, _, hba⟩
        have BOA := Kp.mk (BO8.out.below hba)
        have HBELA := Kp.mk (bstep HBEL8.out HBEL8.out.size hba)
        have OT := Kp.mk ot
        obtain ⟨_, ct2, hv2, hct, _, ht0, ht1⟩ := ot.shape
        obtain rfl : ct = ct2 := by cases hv2; rfl
        rw [← HNT.out] at hct
        have HMO := Kp.mk (s_most wa p s 2 BOA.out.st BOA.out.inv)
        rw [← HWT.out] at HMO
        by_cases hn2 : 2 < nt
        · have hn2d : decide ((2 : Int) < (nt : Int)) = true := by simp; omega
          have hn2i : (2 : Int) < (nt : Int) := by omega
          have hc2 : (2 : Int) ≤ (ct : Int) := by omega
          have hc2n : 2 ≤ ct := by omega
          obtain ⟨gt, rfl⟩ : ∃ g, At = some ⟨g, 0, none⟩ := by
            obtain ⟨A2, c2, hv3, _, _, hs0, hs1⟩ := OT.out.shape
            have ea : At = A2 := by injection hv3
            cases hA : A2 with
            | none => have h1 := (hs0 hA).1; have h2 := HNT.out; rw [h1] at h2; simp at h2; omega
            | some x => obtain ⟨g, rfl⟩ := hs1 x hA; exact ⟨g, by rw [ea, hA]⟩
          have OT2 := Kp.mk (OT.out.take 2 (by have := HNT.out; omega))
          have hlen2 : (wt.take 2).length = 2 := by have := HNT.out; simp; omega
          rw [cut2_long (by have := HNT.out; omega), hlen2] at HMO
          have HLEN2 := Kp.mk hlen2
          clear hba ot hv2 ht0 ht1 HALT hlen2
          go_wp2_with fail
          refine HMO.out.mono ?_
          rintro e wb ⟨Ab, cb, rfl, ob, hbb⟩
          have ot3 := OT2.out.frame (Chg.of_below hbb NoF) (fun _ _ h => h)
          have HEQT := Kp.mk (words_eq wb (wt.take 2) Ab _ cb ct (ob.src rfl) (ot3.src rfl) (by have := HLEN2.out; omega))
          rw [HLEN2.out] at HEQT
          have BOB := Kp.mk (BOA.out.below hbb)
          have HBELB := Kp.mk (bstep HBELA.out HBELA.out.size hbb)
          clear hbb ob ot3 HMO
          go_wp2_with fail
          refine HEQT.out.mono ?_
          rintro e wc ⟨rfl, hbc⟩
          have HBELC := Kp.mk (bstep HBELB.out HBELB.out.size hbc)
          clear hbc HEQT
          go_wp2_with fail
          refine (known_any wc).mono ?_
          rintro e wd ⟨rfl, hbd⟩
          have HBELD := Kp.mk (bstep HBELC.out HBELC.out.size hbd)
          clear hbd
          go_wp2
          go_ret
          exact ⟨rfl, HBELD.out⟩
        · have hn2d : decide ((2 : Int) < (nt : Int)) = false := by simp; omega
          have hn2i : ¬ ((2 : Int) < (nt : Int)) := by omega
          rw [cut2_short (by have := HNT.out; omega), ← HNT.out] at HMO
          clear hba ot hv2 ht0 ht1 HALT hct
          go_wp2_with fail
          refine HMO.out.mono ?_
          rintro e wb ⟨Ab, cb, rfl, ob, hbb⟩
          have ot3 := OT.out.frame (Chg.of_below hbb NoF) (fun _ _ h => h)
          have HEQT := Kp.mk (words_eq wb wt Ab At cb ct (ob.src rfl) (ot3.src rfl) (by have := HNT.out; omega))
          rw [← HNT.out] at HEQT
          have BOB := Kp.mk (BOA.out.below hbb)
          have HBELB := Kp.mk (bstep HBELA.out HBELA.out.size hbb)
          clear hbb ob ot3 HMO
          go_wp2_with fail
          refine HEQT.out.mono ?_
          rintro e wc ⟨rfl, hbc⟩
          have HBELC := Kp.mk (bstep HBELB.out HBELB.out.size hbc)
          clear hbc HEQT
          go_wp2_with fail
          refine (known_any wc).mono ?_
          rintro e wd ⟨rfl, hbd⟩
          have HBELD := Kp.mk (bstep HBELC.out HBELC.out.size hbd)
          clear hbd
          go_wp2
          go_ret
          exact ⟨rfl, HBELD.out⟩
end Go.Proofs.Ythdfmopbihpcoaa
