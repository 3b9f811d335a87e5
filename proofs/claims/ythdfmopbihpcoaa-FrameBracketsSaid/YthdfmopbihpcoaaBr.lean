/- FrameBrackets walked: it answers true, and writes nothing that was there; its bounds stand in the statement. -/
import Derived.Test.YthdfmopbihpcoaaRg
namespace Go.Proofs.Ythdfmopbihpcoaa
open Go.RowKit

/-- With one frame more, of so many slots (y none: of none). -/
def Brk (s0 : StM) (rt n f : Int) (t : StM) : Prop := t.x = s0.x ∧ ∃ y, t.fs = s0.fs ++ [⟨rt, y⟩] ∧ ((f = 0 ∧ ∃ ly, y = some ly ∧ (ly.length : Int) = n) ∨ (f ≠ 0 ∧ y = none))
theorem last_snoc (l : List Fr) (f : Fr) : (l ++ [f]).getLast? = some f := by simp
theorem Brk.open (s0 : StM) (rt n : Int) : Brk s0 rt n (openV { s0 with fs := s0.fs ++ [⟨rt, none⟩] } n) (openM' { s0 with fs := s0.fs ++ [⟨rt, none⟩] } n) := by
  have hl : ({ s0 with fs := s0.fs ++ [⟨rt, none⟩] } : StM).fs.getLast? = some ⟨rt, none⟩ := last_snoc _ _
  unfold openM'
  by_cases hn : n < 0 ∨ 16 < n
  · have h1 : openV { s0 with fs := s0.fs ++ [⟨rt, none⟩] } n = 1 := by unfold openV; rw [if_pos hn]
    rw [h1, if_neg (by decide)]
    exact ⟨rfl, none, rfl, .inr ⟨by decide, rfl⟩⟩
  · have h1 : openV { s0 with fs := s0.fs ++ [⟨rt, none⟩] } n = 0 := by unfold openV; rw [if_neg hn, hl]
    rw [h1, if_pos rfl]
    unfold openM
    rw [hl]
    refine ⟨rfl, some (List.replicate n.toNat zeroCl), by simp, .inl ⟨rfl, _, rfl, ?_⟩⟩
    simp; omega
theorem Brk.setY {s0 t : StM} {rt n f : Int} (h : Brk s0 rt n f t) (i u : Int) : Brk s0 rt n f (setYM' t i u) := by
  unfold setYM'
  split
  · obtain ⟨h1, y, h2, h3⟩ := h
    unfold setYM
    rw [h2, last_snoc]
    rcases h3 with ⟨h3, ly, rfl, h4⟩ | ⟨h3, rfl⟩
    · exact ⟨h1, some (ly.set i.toNat ⟨u, true⟩), by simp, .inl ⟨h3, _, rfl, by simpa using h4⟩⟩
    · exact ⟨h1, none, by simp, .inr ⟨h3, rfl⟩⟩
  · exact h
theorem Brk.ok {s0 t : StM} {rt n : Int} (h : Brk s0 rt n 0 t) : (retV t).2 = 192 ∧ retM t = t ∧ topSize t = n ∧ closeV t = 0 ∧ Brk s0 rt n 1 (closeM' t) := by
  obtain ⟨h1, y, h2, ⟨_, ly, rfl, h4⟩ | ⟨h3, _⟩⟩ := h
  · have hl : t.fs.getLast? = some ⟨rt, some ly⟩ := by rw [h2]; exact last_snoc _ _
    have hr : retV t = (0, 192) := by unfold retV; rw [hl]
    have hc : closeV t = 0 := by unfold closeV; rw [hl]
    refine ⟨by rw [hr], by unfold retM; rw [hr]; rfl, by unfold topSize; rw [hl]; exact h4, hc, ?_⟩
    unfold closeM' closeM
    rw [hc, if_pos rfl, hl]
    exact ⟨h1, none, by simp [h2], .inr ⟨by decide, rfl⟩⟩
  · exact absurd rfl h3
theorem Brk.back {s0 t : StM} {rt n f : Int} (h : Brk s0 rt n f t) (hf : f ≠ 0) : retV t = (rt, 0) ∧ retM t = s0 := by
  obtain ⟨h1, y, h2, ⟨h3, _⟩ | ⟨_, rfl⟩⟩ := h
  · exact absurd h3 hf
  · have hl : t.fs.getLast? = some ⟨rt, none⟩ := by rw [h2]; exact last_snoc _ _
    have hr : retV t = (rt, 0) := by unfold retV; rw [hl]
    refine ⟨hr, ?_⟩
    unfold retM
    rw [hr, if_pos rfl, h2]
    cases t
    cases s0
    simp at h1 ⊢
    exact h1
set_option maxRecDepth 100000 in
set_option maxHeartbeats 40000000 in
theorem brackets_any (w : World) (ops : List OpM) (rt n : Int) (l : List Int) (A1 A4 : Option Addr) (c1 c4 : Nat) (h1 : Src w eOp A1 c1 ops) (h4 : Src w eU64 A4 c4 l) (hm : ops.length ≤ 9000000000000) (hl : l.length ≤ 9000000000000000) :
    Calls Try.prog 3 #[.slice A1 ops.length c1, .int .i64 rt, .int .i64 n, .slice A4 l.length c4] w fun e w' => e = .returned (.bool true) ∧ Below w.heap.size w w' := by
  have H1 := Kp.mk h1
  have H4 := Kp.mk h4
  clear h1 h4
  obtain ⟨B, hB⟩ : ∃ B, B = w.heap.size := ⟨_, rfl⟩
  have HBE := Kp.mk hB
  clear hB
  go_enter Try.func3, Try.ntmps3
  go_wp2_with fail
  refine (s_new (B := B) w (by rw [HBE.out]; exact Nat.le_refl _)).mono ?_
  rintro e w1 ⟨p, rfl, st1, hb1⟩
  have ST1 := Kp.mk st1
  have HB1 := Kp.mk hb1
  clear st1 hb1
  go_wp2_with fail
  refine (r_new (B := B) w1 (by rw [HBE.out]; exact HB1.out.size)).mono ?_
  rintro e w2 ⟨q, rfl, rf2, hb2⟩
  have BO2 : Kp (Bo B w2 p q newSt) := ⟨⟨ST1.out.below hb2, rf2, Inv.new⟩⟩
  have HB2 : Kp (Below B w w2) := ⟨by rw [HBE.out]; exact bstep HB1.out HB1.out.size hb2⟩
  clear rf2 hb2 ST1 HB1
  go_wp2_with fail
  go_loopw [11] (fun i wr => ∃ (k : Nat) (s : StM), k ≤ ops.length ∧ i = .int .i64 k ∧ Kp (Bo B wr p q s) ∧ Kp (Below B w wr)) (fun i _ => ops.length - (intOf i).toNat)
  case atStart => exact ⟨0, newSt, Nat.zero_le _, rfl, BO2, HB2⟩
  case round =>
    clear BO2 HB2
    obtain ⟨k, s, hk, rfl, hbo, hbw⟩ := hrel
    by_cases hlt : k < ops.length
    · cases A1 with
      | none => have := (H1.out.none rfl).1; subst this; simp at hlt
      | some x =>
        obtain ⟨g, o, rfl⟩ := H1.out.addr (by omega)
        have hs := H1.out.below (by rw [← HBE.out]; exact hbw.out)
        obtain ⟨x, hx⟩ : ∃ x, x = ops[k] := ⟨_, rfl⟩
        have e0 : wr.cell? ⟨g, o + k * 4, none⟩ = some (.int .i64 x.kind) := by have := hs.elem k 0 hlt (by decide); rw [← hx] at this; simpa [eOp] using this
        have e1 : wr.cell? ⟨g, o + k * 4 + 1, none⟩ = some (.int .i64 x.n) := by have := hs.elem k 1 hlt (by decide); rw [← hx] at this; simpa [eOp, Nat.add_assoc] using this
        have e2 : wr.cell? ⟨g, o + k * 4 + 2, none⟩ = some (.int .u64 x.w) := by have := hs.elem k 2 hlt (by decide); rw [← hx] at this; simpa [eOp, Nat.add_assoc] using this
        have e3 : wr.cell? ⟨g, o + k * 4 + 3, none⟩ = some (.slice x.A x.m x.c) := by have := hs.elem k 3 hlt (by decide); rw [← hx] at this; simpa [eOp, Nat.add_assoc] using this
        have k0 : (0 : Int) ≤ (k : Int) := by omega
        have k1 : (k : Int) < (ops.length : Int) := by omega
        clear hx hs
        by_cases h7 : x.kind = 7
        · have h7b : (x.kind != 7) = false := by simp [h7]
          clear h7
          go_wp2
          go_roundw
          case rel => exact ⟨k + 1, s, by omega, by go_num, hbo, hbw⟩
          case measure => simp [intOf]; omega
        · have h7b : (x.kind != 7) = true := by simp [h7]
          have HX := Kp.mk (step_any wr p q s x hbo.out h7)
          clear h7
          go_wp2_with fail
          refine HX.out.mono ?_
          rintro e w5 ⟨rfl, hbo5, hb5⟩
          have BO5 := Kp.mk hbo5
          have HB5 := Kp.mk (hbw.out.trans hb5)
          clear hbo5 hb5 HX
          go_wp2
          go_roundw
          case rel => exact ⟨k + 1, _, by omega, by go_num, BO5, HB5⟩
          case measure => simp [intOf]; omega
    · have hd5 : decide ((k : Int) < ops.length) = false := by simp; omega
      have hdf : ¬ ((k : Int) < ops.length) := by omega
      have ST := Kp.mk hbo.out.st
      have INV := Kp.mk hbo.out.inv
      have hle := hbo.out.st.le
      have HLE := Kp.mk hle
      clear hbo hle
      go_wp2_with fail
      refine (s_all wr p s ST.out INV.out).mono ?_
      rintro e w2 ⟨Aw, cw, rfl, ow, _, hb2⟩
      have ST2 := Kp.mk (ST.out.below hb2)
      have OW2 := Kp.mk ow
      have HB2 := Kp.mk (hbw.out.trans (hb2.mono HLE.out))
      clear ow hb2 ST hbw HLE
      go_wp2_with fail
      refine (s_depth w2 p s ST2.out).mono ?_
      rintro e w3 ⟨rfl, rfl⟩
      go_wp2_with fail
      refine (s_size w2 p s ST2.out INV.out).mono ?_
      rintro e w3 ⟨rfl, hb3⟩
      have ST3 := Kp.mk (ST2.out.below hb3)
      have OW3 := Kp.mk (OW2.out.frame (Chg.of_below hb3 NoF) (fun _ _ h => h))
      have HB3 := Kp.mk (HB2.out.trans (hb3.mono ST2.out.le))
      clear hb3 ST2 OW2 HB2
      go_wp2_with fail
      refine (s_call w3 p s rt ST3.out).mono ?_
      rintro e w4 ⟨rfl, st4, c4⟩
      have OW4 := Kp.mk (OW3.out.ty (L := TS) (by decide) c4)
      have HB4 := Kp.mk (HB3.out.trans (Ty.below c4 ST3.out.le))
      have ST4 := Kp.mk st4
      clear st4 c4 ST3 OW3 HB3
      by_cases hcv : callV s rt = 0
      · have hcm : callM s rt = { s with fs := s.fs ++ [⟨rt, none⟩] } := by
          unfold callV at hcv
          unfold callM
          split at hcv
          · cases hcv
          · split at hcv
            · cases hcv
            · rename_i a b; rw [if_neg a, if_neg b]
        have INV4 : Kp (Inv (callM s rt)) := ⟨INV.out.call rt⟩
        rw [hcm] at ST4 INV4
        rw [hcv]
        have HCM := Kp.mk hcm
        clear hcv hcm
        go_wp2_with fail
        refine (s_open w4 p _ n ST4.out INV4.out).mono ?_
        rintro e w5 ⟨rfl, st5, c5⟩
        have OW5 := Kp.mk (OW4.out.ty (L := TS) (by decide) c5)
        have HB5 := Kp.mk (HB4.out.trans (Ty.below c5 ST4.out.le))
        have ST5 := Kp.mk st5
        have INV5 := Kp.mk (INV4.out.open n)
        have BR5 := Kp.mk (Brk.open s rt n)
        obtain ⟨f, hf⟩ : ∃ f, f = openV { s with fs := s.fs ++ [⟨rt, none⟩] } n := ⟨_, rfl⟩
        obtain ⟨t5, ht5⟩ : ∃ t, t = openM' { s with fs := s.fs ++ [⟨rt, none⟩] } n := ⟨_, rfl⟩
        rw [← hf, ← ht5] at BR5
        rw [← ht5] at ST5 INV5
        rw [← hf]
        clear st5 c5 OW4 HB4 ST4 INV4 hf ht5
        go_wp2_with fail
        go_loopw [17] (fun i wr => ∃ (k : Nat) (t : StM), k ≤ l.length ∧ i = .int .i64 k ∧ Kp (St B wr p t) ∧ Kp (Inv t) ∧ Kp (Brk s rt n f t) ∧ Kp (Own wr 29 eU64 (.slice Aw (onW (cellsOf s)).length cw) (onW (cellsOf s))) ∧ Kp (Below B w wr)) (fun i _ => l.length - (intOf i).toNat)
        case atStart => exact ⟨0, t5, Nat.zero_le _, rfl, ST5, INV5, BR5, OW5, HB5⟩
        case round =>
          clear ST5 INV5 BR5 OW5 HB5
          obtain ⟨k, t, hk, rfl, hst, hiv, hbr, how, hbw⟩ := hrel
          by_cases hlt : k < l.length
          · cases A4 with
            | none => have := (H4.out.none rfl).1; subst this; simp at hlt
            | some x =>
              obtain ⟨g, o, rfl⟩ := H4.out.addr (by omega)
              have hs := H4.out.below (by rw [← HBE.out]; exact hbw.out)
              obtain ⟨x, hx⟩ : ∃ x, x = l[k] := ⟨_, rfl⟩
              have e0 : wr.cell? ⟨g, o + k, none⟩ = some (.int .u64 x) := by have := hs.elem k 0 hlt (by decide); rw [← hx] at this; simpa [eU64] using this
              have k0 : (0 : Int) ≤ (k : Int) := by omega
              have k1 : (k : Int) < (l.length : Int) := by omega
              clear hx hs
              go_wp2_with fail
              refine (s_setY wr p t k x hst.out hiv.out).mono ?_
              rintro e w6 ⟨rfl, st6, c6⟩
              have OW6 := Kp.mk (how.out.ty (L := TS) (by decide) c6)
              have HB6 := Kp.mk (hbw.out.trans (Ty.below c6 hst.out.le))
              have ST6 := Kp.mk st6
              have INV6 := Kp.mk (hiv.out.setY k x)
              have BR6 := Kp.mk (hbr.out.setY k x)
              clear st6 c6
              go_wp2
              go_roundw
              case rel => exact ⟨k + 1, _, by omega, by go_num, ST6, INV6, BR6, OW6, HB6⟩
              case measure => simp [intOf]; omega
          · have hd5 : decide ((k : Int) < l.length) = false := by simp; omega
            have hdf : ¬ ((k : Int) < l.length) := by omega
            by_cases hf : f = 0
            · subst hf
              obtain ⟨r1, r2, r3, r4, r5⟩ := hbr.out.ok
              have R1 := Kp.mk r1
              have R2 := Kp.mk r2
              have R3 := Kp.mk r3
              have R4 := Kp.mk r4
              have R5 := Kp.mk r5
              clear r1 r2 r3 r4 r5 hbr
              go_wp2_with fail
              refine (s_ret wr p t hst.out hiv.out).mono ?_
              rw [R1.out, R2.out]
              rintro e w6 ⟨rfl, st6, c6⟩
              have OW6 := Kp.mk (how.out.ty (L := TS) (by decide) c6)
              have HB6 := Kp.mk (hbw.out.trans (Ty.below c6 hst.out.le))
              have ST6 := Kp.mk st6
              clear st6 c6 hst how hbw
              go_wp2_with fail
              refine (s_size w6 p t ST6.out hiv.out).mono ?_
              rw [R3.out]
              rintro e w7 ⟨rfl, hb7⟩
              have OW7 := Kp.mk (OW6.out.frame (Chg.of_below hb7 NoF) (fun _ _ h => h))
              have HB7 := Kp.mk (HB6.out.trans (hb7.mono ST6.out.le))
              have ST7 := Kp.mk (ST6.out.below hb7)
              clear hb7 OW6 HB6 ST6
              go_wp2_with fail
              refine (s_close w7 p t ST7.out hiv.out).mono ?_
              rw [R4.out]
              rintro e w8 ⟨rfl, st8, c8⟩
              have OW8 := Kp.mk (OW7.out.ty (L := TS) (by decide) c8)
              have HB8 := Kp.mk (HB7.out.trans (Ty.below c8 ST7.out.le))
              have ST8 := Kp.mk st8
              have INV8 := Kp.mk hiv.out.close
              obtain ⟨b1, b2⟩ := R5.out.back (by decide)
              have B1 := Kp.mk b1
              have B2 := Kp.mk b2
              clear st8 c8 OW7 HB7 ST7 b1 b2 R1 R2 R3 R4
              go_wp2_with fail
              refine (s_ret w8 p _ ST8.out INV8.out).mono ?_
              rw [B1.out, B2.out]
              rintro e w9 ⟨rfl, st9, c9⟩
              have OW9 := Kp.mk (OW8.out.ty (L := TS) (by decide) c9)
              have HB9 := Kp.mk (HB8.out.trans (Ty.below c9 ST8.out.le))
              have ST9 := Kp.mk st9
              clear st9 c9 OW8 HB8 ST8
              go_wp2_with fail
              refine (s_all w9 p s ST9.out INV.out).mono ?_
              rintro e w10 ⟨Ax, cx, rfl, ox, _, hbx⟩
              have ST10 := Kp.mk (ST9.out.below hbx)
              have OX10 := Kp.mk ox
              have OW10 := Kp.mk (OW9.out.frame (Chg.of_below hbx NoF) (fun _ _ h => h))
              have HB10 := Kp.mk (HB9.out.trans (hbx.mono ST9.out.le))
              clear ox hbx
              go_wp2_with fail
              refine (words_eq w10 (onW (cellsOf s)) Ax Aw cx cw (OX10.out.src rfl) (OW10.out.src rfl) (by have := onW_1040 INV.out; omega)).mono ?_
              rintro e w11 ⟨rfl, hbx⟩
              have ST11 := Kp.mk (ST10.out.below hbx)
              have HB11 := Kp.mk (HB10.out.trans (hbx.mono ST10.out.le))
              clear hbx
              go_wp2_with fail
              refine (s_depth w11 p s ST11.out).mono ?_
              rintro e w12 ⟨rfl, rfl⟩
              go_wp2_with fail
              refine (s_size w11 p s ST11.out INV.out).mono ?_
              rintro e w12 ⟨rfl, hbx⟩
              have ST12 := Kp.mk (ST11.out.below hbx)
              have HB12 := Kp.mk (HB11.out.trans (hbx.mono ST11.out.le))
              clear hbx
              go_wp2_with fail
              refine (known_any w12).mono ?_
              rintro e w13 ⟨rfl, hbx⟩
              have HB13 := Kp.mk (HB12.out.trans (hbx.mono ST12.out.le))
              clear hbx
              go_wp2
              go_ret
              exact ⟨rfl, by rw [← HBE.out]; exact HB13.out⟩
            · have hfd : (f == 0) = false := by simpa using hf
              obtain ⟨b1, b2⟩ := hbr.out.back hf
              have B1 := Kp.mk b1
              have B2 := Kp.mk b2
              clear b1 b2 hf
              go_wp2_with fail
              refine (s_ret wr p t hst.out hiv.out).mono ?_
              rw [B1.out, B2.out]
              rintro e w9 ⟨rfl, st9, c9⟩
              have OW9 := Kp.mk (how.out.ty (L := TS) (by decide) c9)
              have HB9 := Kp.mk (hbw.out.trans (Ty.below c9 hst.out.le))
              have ST9 := Kp.mk st9
              clear st9 c9 hst how hbw
              go_wp2_with fail
              refine (s_all w9 p s ST9.out INV.out).mono ?_
              rintro e w10 ⟨Ax, cx, rfl, ox, _, hbx⟩
              have ST10 := Kp.mk (ST9.out.below hbx)
              have OX10 := Kp.mk ox
              have OW10 := Kp.mk (OW9.out.frame (Chg.of_below hbx NoF) (fun _ _ h => h))
              have HB10 := Kp.mk (HB9.out.trans (hbx.mono ST9.out.le))
              clear ox hbx
              go_wp2_with fail
              refine (words_eq w10 (onW (cellsOf s)) Ax Aw cx cw (OX10.out.src rfl) (OW10.out.src rfl) (by have := onW_1040 INV.out; omega)).mono ?_
              rintro e w11 ⟨rfl, hbx⟩
              have ST11 := Kp.mk (ST10.out.below hbx)
              have HB11 := Kp.mk (HB10.out.trans (hbx.mono ST10.out.le))
              clear hbx
              go_wp2_with fail
              refine (s_depth w11 p s ST11.out).mono ?_
              rintro e w12 ⟨rfl, rfl⟩
              go_wp2_with fail
              refine (s_size w11 p s ST11.out INV.out).mono ?_
              rintro e w12 ⟨rfl, hbx⟩
              have ST12 := Kp.mk (ST11.out.below hbx)
              have HB12 := Kp.mk (HB11.out.trans (hbx.mono ST11.out.le))
              clear hbx
              go_wp2_with fail
              refine (known_any w12).mono ?_
              rintro e w13 ⟨rfl, hbx⟩
              have HB13 := Kp.mk (HB12.out.trans (hbx.mono ST12.out.le))
              clear hbx
              go_wp2
              go_ret
              exact ⟨rfl, by rw [← HBE.out]; exact HB13.out⟩
      · have hcm : callM s rt = s := by
          unfold callV at hcv
          unfold callM
          split at hcv
          · rename_i a; rw [if_pos a]
          · rename_i a
            rw [if_neg a]
            split at hcv
            · rename_i b; rw [if_pos b]
            · exact absurd rfl hcv
        rw [hcm] at ST4
        have hcd : (callV s rt != 0) = true := by simpa using hcv
        clear hcm hcv
        go_wp2_with fail
        refine (s_all w4 p s ST4.out INV.out).mono ?_
        rintro e w10 ⟨Ax, cx, rfl, ox, _, hbx⟩
        have ST10 := Kp.mk (ST4.out.below hbx)
        have OX10 := Kp.mk ox
        have OW10 := Kp.mk (OW4.out.frame (Chg.of_below hbx NoF) (fun _ _ h => h))
        have HB10 := Kp.mk (HB4.out.trans (hbx.mono ST4.out.le))
        clear ox hbx
        go_wp2_with fail
        refine (words_eq w10 (onW (cellsOf s)) Ax Aw cx cw (OX10.out.src rfl) (OW10.out.src rfl) (by have := onW_1040 INV.out; omega)).mono ?_
        rintro e w11 ⟨rfl, hbx⟩
        have ST11 := Kp.mk (ST10.out.below hbx)
        have HB11 := Kp.mk (HB10.out.trans (hbx.mono ST10.out.le))
        clear hbx
        go_wp2_with fail
        refine (s_depth w11 p s ST11.out).mono ?_
        rintro e w12 ⟨rfl, rfl⟩
        go_wp2_with fail
        refine (s_size w11 p s ST11.out INV.out).mono ?_
        rintro e w12 ⟨rfl, hbx⟩
        have ST12 := Kp.mk (ST11.out.below hbx)
        have HB12 := Kp.mk (HB11.out.trans (hbx.mono ST11.out.le))
        clear hbx
        go_wp2_with fail
        refine (known_any w12).mono ?_
        rintro e w13 ⟨rfl, hbx⟩
        have HB13 := Kp.mk (HB12.out.trans (hbx.mono ST12.out.le))
        clear hbx
        go_wp2
        go_ret
        exact ⟨rfl, by rw [← HBE.out]; exact HB13.out⟩
end Go.Proofs.Ythdfmopbihpcoaa
