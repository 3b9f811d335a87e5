/- SuperPlays walked: it answers true, and writes nothing that was there; its bounds stand in the statement. -/
import Derived.Test.YtiedfckgkjcheaaRf
import Derived.Laws.StructEq
namespace Go.Proofs.Ytiedfckgkjcheaa
open Go.RowKit

section
variable {w0 w w' : World} {p q : Nat} {lv ev rl rr rf re : Value} {s t : SupM} {fg : List Bool}
theorem Both.own {v : Value} {l : List CS} (h : Both w0 w p q lv ev rl rr rf re s t fg) (ho : Own w 49 eCS v l) (hrl : ∀ g, v.ownBlock = some g → rl.ownBlock ≠ some g) (hge : ∀ g, v.ownBlock = some g → w0.heap.size ≤ g) (hc : Chg (fun g => v.ownBlock = some g) w w') : Both w0 w' p q lv ev rl rr rf re s t fg := by
  refine ⟨h.sup.frame hc (ho.ne h.sup.blk (by decide)) (fun g hg hF => ?_) (fun g hg hF => ?_), h.ref.frame hc (ho.ne h.ref.blk (by decide)) (fun g hg hF => hrl g hF hg) (fun g hg hF => ?_) (fun g hg hF => ?_) (fun g hg hF => ?_),
    h.hp, h.hq, h.f1, h.f2, h.f3, h.f4, h.f5, h.dis, chg_below h.below hc hge h.below.size⟩
  · obtain ⟨cur, hcur⟩ := h.sup.l.blk' hg; exact ho.ne hcur (by decide) hF
  · obtain ⟨cur, hcur⟩ := h.sup.e.blk' hg; exact ho.ne hcur (by decide) hF
  · obtain ⟨cur, hcur⟩ := h.ref.r.blk' hg; exact ho.ne hcur (by decide) hF
  · obtain ⟨cur, hcur⟩ := h.ref.f.blk' hg; exact ho.ne hcur (by decide) hF
  · obtain ⟨cur, hcur⟩ := h.ref.e.blk' hg; exact ho.ne hcur (by decide) hF
end

set_option maxRecDepth 100000 in
set_option maxHeartbeats 40000000 in
theorem plays_any (w : World) (st0 it pe : Int) (cs : List CS) (ops : List OpM) (A3 A4 : Option Addr) (c3 c4 : Nat) (h3 : Src w eCS A3 c3 cs) (h4 : Src w eOp A4 c4 ops) (hn : cs.length * 24 ≤ 140737488355328) (hm : ops.length ≤ 9000000000000) (htk : ∀ y ∈ ops, y.tick ≤ 9223372036854775807) :
    Calls Try.prog 5 #[.int .i64 st0, .int .i64 it, .int .i64 pe, .slice A3 cs.length c3, .slice A4 ops.length c4] w fun e w' => e = .returned (.bool true) ∧ Below w.heap.size w w' := by
  have H3 := Kp.mk h3
  have H4 := Kp.mk h4
  have HT := Kp.mk htk
  clear h4 htk
  have hown0 : Own w 49 eCS (.slice none 0 0) [] := Own.nil _ _ _
  go_enter Try.func5, Try.ntmps5
  go_upto_region 3 with (at_builtin; refine app_ev T26 rfl _ _ rfl hown0 rfl h3 rfl rfl (by simp only [List.length_nil]; omega) (by simp only [List.length_nil]; omega) ?_; intro A' n' c' w1 a0 a1 a2 a3)
  obtain rfl : n' = cs.length := by simpa using a0.out
  have hb1 : Below w.heap.size w w1 := a2.below_all (fun k hk => by cases hk)
  have hge : ∀ g, (Value.slice A' cs.length c').ownBlock = some g → w.heap.size ≤ g := fun g hg => by
    rcases a3 with h | ⟨g', h, hg'⟩
    · rw [h] at hg; cases hg
    · rw [h] at hg; cases hg; exact hg'
  have hlt : ∀ g, (Value.slice A' cs.length c').ownBlock = some g → g < w1.heap.size := fun g hg => a1.lt hg
  rw [List.nil_append] at a1
  have OO := Kp.mk a1
  have HB1 := Kp.mk hb1
  have HGE := Kp.mk hge
  have HLT := Kp.mk hlt
  clear h3 hown0 a0 a1 a2 a3 hb1 hge hlt
  go_wp2_with fail
  refine (new_any _ st0 it pe cs A' c' (OO.out.src rfl) hn).mono ?_
  rintro e w2 ⟨hb2, hr2⟩
  have HB2 := Kp.mk hb2
  have HR2 := Kp.mk hr2
  clear hb2 hr2
  have hx3 : Src w2 eCS A3 c3 cs := (H3.out.below HB1.out).below (bstep (Below.refl _ _) (Nat.le_refl _) HB2.out)
  have HX3 := Kp.mk hx3
  clear hx3
  have O2 := Kp.mk (OO.out.below HB2.out)
  rcases HR2.out with ⟨hne, rfl⟩ | ⟨hok, p, lv, hp, hfr, rfl, hs2⟩
  · have HNE := Kp.mk hne
    clear hne HR2
    go_wp2_with fail
    refine (rnew_any _ st0 it pe cs A3 c3 HX3.out hn).mono ?_
    rintro e w3 ⟨hb3, ⟨_, rfl⟩ | ⟨hz, _⟩⟩
    · have HB3 : Kp (Below w.heap.size w w3) := ⟨bstep (bstep HB1.out HB1.out.size HB2.out) (bstep HB1.out HB1.out.size HB2.out).size hb3⟩
      have O3 := Kp.mk (O2.out.below hb3)
      clear hb3 OO O2 HX3 HB1 HB2
      have hnn : ((newErr st0 it pe cs : Int) != (newErr st0 it pe cs : Int)) = false := by simp
      go_wp2_with fail
      go_loopw [16] (fun i wr => ∃ (k : Nat) (cs' : List CS), k ≤ cs.length ∧ i = .int .i64 k ∧ Kp (Own wr 49 eCS (.slice A' cs.length c') cs' ∧ cs'.length = cs.length ∧ ∀ j, k ≤ j → cs'[j]? = cs[j]?) ∧ Kp (Below w.heap.size w wr)) (fun i _ => cs.length - (intOf i).toNat)
      case atStart => exact ⟨0, cs, Nat.zero_le _, rfl, ⟨O3.out, rfl, fun _ _ => rfl⟩, HB3⟩
      case round =>
        clear O3 HB3
        obtain ⟨k, cs', hk, rfl, hO, hB⟩ := hrel
        by_cases hlt : k < cs.length
        · cases A3 with
          | none => have := (H3.out.none rfl).1; subst this; simp at hlt
          | some ad =>
          obtain ⟨g, o, rfl⟩ := H3.out.addr (by omega)
          have hlt' : k < cs'.length := by rw [hO.out.2.1]; exact hlt
          obtain ⟨Ao, co, ho, _, _, ho0, ho1⟩ := hO.out.1.shape
          have hAo : ∃ go, A' = some ⟨go, 0, none⟩ := by
            rw [hO.out.2.1] at ho
            cases ho
            cases A' with
            | none => have := (ho0 rfl).1; rw [this] at hlt'; simp at hlt'
            | some a => obtain ⟨go, rfl⟩ := ho1 a rfl; exact ⟨go, rfl⟩
          obtain ⟨go, rfl⟩ := hAo
          clear ho ho0 ho1
          have hx : cs'[k] = cs[k] := by
            have := hO.out.2.2 k (Nat.le_refl _)
            rw [List.getElem?_eq_getElem hlt', List.getElem?_eq_getElem hlt] at this
            exact Option.some.inj this
          have C0 : wr.cell? ⟨g, o + k * 2, none⟩ = some (.string cs[k].name) := (H3.out.below hB.out).elem k 0 hlt (by decide)
          have C1 : wr.cell? ⟨g, o + k * 2 + 1, none⟩ = some (.int .i64 cs[k].rs) := (H3.out.below hB.out).elem k 1 hlt (by decide)
          have D0 : wr.cell? ⟨go, k * 2, none⟩ = some (.string cs[k].name) := by rw [← hx]; exact hO.out.1.elem k 0 hlt' (by decide)
          have D1 : wr.cell? ⟨go, k * 2 + 1, none⟩ = some (.int .i64 cs[k].rs) := by rw [← hx]; exact hO.out.1.elem k 1 hlt' (by decide)
          have DF : wr.frozen? ⟨go, k * 2, none⟩ = false := hO.out.1.frozen _
          have OS : Kp (Own (wr.setCell ⟨go, k * 2, none⟩ (.string ⟨#[115, 112, 111, 105, 108, 116]⟩)).drew 49 eCS (.slice (some ⟨go, 0, none⟩) cs.length c') (cs'.set k ⟨⟨#[115, 112, 111, 105, 108, 116]⟩, cs'[k].rs⟩)) :=
            ⟨(hO.out.1.set hO.out.2.1.symm k 0 ⟨⟨#[115, 112, 111, 105, 108, 116]⟩, cs'[k].rs⟩ (.string ⟨#[115, 112, 111, 105, 108, 116]⟩) hlt' (by decide) rfl).drew⟩
          obtain ⟨x, hxx⟩ : ∃ x, x = cs[k] := ⟨_, rfl⟩
          rw [← hxx] at C0 C1 D0 D1
          clear hx hxx
          have k0 : (0 : Int) ≤ (k : Int) := by omega
          have k1 : (k : Int) < (cs.length : Int) := by omega
          go_wp2_with fail
          go_region
          go_wp2_with fail
          go_roundw
          case rel => exact ⟨k + 1, cs'.set k ⟨⟨#[115, 112, 111, 105, 108, 116]⟩, cs'[k].rs⟩, by omega, by go_num, ⟨OS.out, by rw [List.length_set]; exact hO.out.2.1, fun j hj => by rw [List.getElem?_set, if_neg (by omega)]; exact hO.out.2.2 j (by omega)⟩, ⟨(Below.setCell (p := ⟨go, k * 2, none⟩) hB.out (HGE.out _ rfl) _).drew⟩⟩
          case measure => simp [intOf]; omega
        · have hd5 : decide ((k : Int) < cs.length) = false := by simp; omega
          go_wp2_with fail
          refine (known_any _).mono ?_
          rintro e w4 ⟨rfl, hb4⟩
          go_wp2
          go_ret
          exact ⟨rfl, bstep hB.out hB.out.size hb4⟩
    · exact absurd hz HNE.out
  · have HOK := Kp.mk (new_ok hok)
    have HOK' := Kp.mk hok
    have HU := Kp.mk HOK.out.2.2.1
    have HC := Kp.mk HOK.out.2.1
    have HS2 := Kp.mk hs2
    have HP := Kp.mk hp
    have HFL := Kp.mk hfr
    clear hok hs2 HR2 hp hfr
    go_wp2_with fail
    refine (rnew_any _ st0 it pe cs A3 c3 HX3.out hn).mono ?_
    rintro e w3 ⟨hb3, ⟨hz, _⟩ | ⟨_, q, rl, rr, rf, fg, hq, f1, f2, f3, rfl, hr3⟩⟩
    · exact absurd HOK'.out hz
    have hw12 := bstep HB1.out HB1.out.size HB2.out
    have HBO : Kp (Both w w3 p q lv (.slice none 0 0) rl rr rf (.slice none 0 0) (newM st0 it pe cs) (newM st0 it pe cs) fg) :=
      ⟨HS2.out.below hb3, hr3, Nat.le_trans HB1.out.size HP.out, Nat.le_trans hw12.size hq, HFL.out.up HB1.out.size, Fresh.nil _ _ _, f2.up hw12.size, f3.up hw12.size, Fresh.nil _ _ _, fun g hg => (by cases hg), bstep hw12 hw12.size hb3⟩
    have O3 := Kp.mk (O2.out.below hb3)
    have HRL : Kp (∀ g, (Value.slice A' cs.length c').ownBlock = some g → rl.ownBlock ≠ some g) := ⟨fun g hg h => by
      have := HLT.out g hg
      have := f1 g h
      have := HB2.out.size
      omega⟩
    have HI : Kp (InvP st0.toNat it pe cs 0 (newM st0 it pe cs)) :=
      ⟨⟨⟨by show st0 = _; have := HOK.out.1; omega, rfl, rfl, by simp [newM, mkCh, kid, Function.comp_def], Nat.le_refl _, fun t ht => by cases ht⟩, Int.le_refl _⟩⟩
    clear hb3 hq f1 f2 f3 hr3 hw12 OO O2 HX3 HB1 HB2 HS2 HP HFL
    go_wp2_with fail
    go_loopw [16] (fun i wr => ∃ (k : Nat) (cs' : List CS), k ≤ cs.length ∧ i = .int .i64 k ∧ Kp (Own wr 49 eCS (.slice A' cs.length c') cs' ∧ cs'.length = cs.length ∧ ∀ j, k ≤ j → cs'[j]? = cs[j]?) ∧ Kp (Both w wr p q lv (.slice none 0 0) rl rr rf (.slice none 0 0) (newM st0 it pe cs) (newM st0 it pe cs) fg)) (fun i _ => cs.length - (intOf i).toNat)
    case atStart => exact ⟨0, cs, Nat.zero_le _, rfl, ⟨O3.out, rfl, fun _ _ => rfl⟩, HBO⟩
    case round =>
      clear O3 HBO
      obtain ⟨k, cs', hk, rfl, hO, hBo⟩ := hrel
      have hB := Kp.mk hBo.out.below
      by_cases hlt : k < cs.length
      · cases A3 with
        | none => have := (H3.out.none rfl).1; subst this; simp at hlt
        | some ad =>
        obtain ⟨g, o, rfl⟩ := H3.out.addr (by omega)
        have hlt' : k < cs'.length := by rw [hO.out.2.1]; exact hlt
        obtain ⟨Ao, co, ho, _, _, ho0, ho1⟩ := hO.out.1.shape
        have hAo : ∃ go, A' = some ⟨go, 0, none⟩ := by
          rw [hO.out.2.1] at ho
          cases ho
          cases A' with
          | none => have := (ho0 rfl).1; rw [this] at hlt'; simp at hlt'
          | some a => obtain ⟨go, rfl⟩ := ho1 a rfl; exact ⟨go, rfl⟩
        obtain ⟨go, rfl⟩ := hAo
        clear ho ho0 ho1
        have hx : cs'[k] = cs[k] := by
          have := hO.out.2.2 k (Nat.le_refl _)
          rw [List.getElem?_eq_getElem hlt', List.getElem?_eq_getElem hlt] at this
          exact Option.some.inj this
        have C0 : wr.cell? ⟨g, o + k * 2, none⟩ = some (.string cs[k].name) := (H3.out.below hB.out).elem k 0 hlt (by decide)
        have C1 : wr.cell? ⟨g, o + k * 2 + 1, none⟩ = some (.int .i64 cs[k].rs) := (H3.out.below hB.out).elem k 1 hlt (by decide)
        have D0 : wr.cell? ⟨go, k * 2, none⟩ = some (.string cs[k].name) := by rw [← hx]; exact hO.out.1.elem k 0 hlt' (by decide)
        have D1 : wr.cell? ⟨go, k * 2 + 1, none⟩ = some (.int .i64 cs[k].rs) := by rw [← hx]; exact hO.out.1.elem k 1 hlt' (by decide)
        have DF : wr.frozen? ⟨go, k * 2, none⟩ = false := hO.out.1.frozen _
        have OS : Kp (Own (wr.setCell ⟨go, k * 2, none⟩ (.string ⟨#[115, 112, 111, 105, 108, 116]⟩)).drew 49 eCS (.slice (some ⟨go, 0, none⟩) cs.length c') (cs'.set k ⟨⟨#[115, 112, 111, 105, 108, 116]⟩, cs'[k].rs⟩)) :=
          ⟨(hO.out.1.set hO.out.2.1.symm k 0 ⟨⟨#[115, 112, 111, 105, 108, 116]⟩, cs'[k].rs⟩ (.string ⟨#[115, 112, 111, 105, 108, 116]⟩) hlt' (by decide) rfl).drew⟩
        obtain ⟨x, hxx⟩ : ∃ x, x = cs[k] := ⟨_, rfl⟩
        rw [← hxx] at C0 C1 D0 D1
        clear hx hxx
        have k0 : (0 : Int) ≤ (k : Int) := by omega
        have k1 : (k : Int) < (cs.length : Int) := by omega
        go_wp2_with fail
        go_region
        go_wp2_with fail
        go_roundw
        case rel => exact ⟨k + 1, cs'.set k ⟨⟨#[115, 112, 111, 105, 108, 116]⟩, cs'[k].rs⟩, by omega, by go_num, ⟨OS.out, by rw [List.length_set]; exact hO.out.2.1, fun j hj => by rw [List.getElem?_set, if_neg (by omega)]; exact hO.out.2.2 j (by omega)⟩, ⟨(hBo.out.own hO.out.1 HRL.out HGE.out ((Chg.refl (fun g => (Value.slice (some ⟨go, 0, none⟩) cs.length c').ownBlock = some g) wr).set (p := ⟨go, k * 2, none⟩) (.inl rfl) (.string ⟨#[115, 112, 111, 105, 108, 116]⟩))).keep (Below.refl _ _).drew⟩⟩
        case measure => simp [intOf]; omega
      · have hd5 : decide ((k : Int) < cs.length) = false := by simp; omega
        clear hO hB
        go_wp2_with fail
        go_loopw [17] (fun i wr => ∃ (k : Nat) (s : SupM) (ev re : Value) (fg : List Bool), k ≤ ops.length ∧ i = .int .i64 k ∧ Kp (Both w wr p q lv ev rl rr rf re s s fg) ∧ Kp (InvP st0.toNat it pe cs k s)) (fun i _ => ops.length - (intOf i).toNat)
        case atStart => exact ⟨0, _, _, _, fg, Nat.zero_le _, rfl, hBo, HI⟩
        case round =>
          clear hBo HI hd5 hk hlt
          obtain ⟨k, s, ev, re, fg, hk, rfl, HB, HI⟩ := hrel
          by_cases hlt : k < ops.length
          · cases A4 with
            | none => have := (H4.out.none rfl).1; subst this; simp at hlt
            | some ad =>
            obtain ⟨g, o, rfl⟩ := H4.out.addr (by omega)
            obtain ⟨x, hx⟩ : ∃ x, x = ops[k] := ⟨_, rfl⟩
            have HTK : Kp (x.tick ≤ 9223372036854775807) := ⟨HT.out x (by rw [hx]; exact List.getElem_mem _)⟩
            have HSC : Kp (∀ w9 : World, Below w.heap.size w w9 → w9.cell? ⟨g, o + k * 4, none⟩ = some (.int .i64 x.kind) ∧ w9.cell? ⟨g, o + k * 4 + 1, none⟩ = some (.string x.name) ∧ w9.cell? ⟨g, o + k * 4 + 2, none⟩ = some (.bool x.normal) ∧ w9.cell? ⟨g, o + k * 4 + 3, none⟩ = some (.int .i64 x.tick)) := ⟨fun w9 hb => by
              rw [hx]
              exact ⟨(H4.out.below hb).elem k 0 hlt (by decide), (H4.out.below hb).elem k 1 hlt (by decide), (H4.out.below hb).elem k 2 hlt (by decide), (H4.out.below hb).elem k 3 hlt (by decide)⟩⟩
            obtain ⟨R0, R1, R2, R3⟩ := HSC.out wr HB.out.below
            have HX := Kp.mk hx
            clear hx
            have HS := Kp.mk (step_any w wr.drew p q lv ev rl rr rf re s fg st0.toNat it pe cs k x (HB.out.keep (Below.refl _ _).drew) HI.out (by have := HOK.out.1; omega) HU.out HC.out (by omega))
            have k0 : (0 : Int) ≤ (k : Int) := by omega
            have k1 : (k : Int) < (ops.length : Int) := by omega
            go_wp2_with fail
            go_cut [116] from 75 to 116 (fun v w9 => v = .bool false ∧ ∃ (s5 : SupM) (ev5 re5 : Value) (fg5 : List Bool), Kp (Both w w9 p q lv ev5 rl rr rf re5 s5 s5 fg5) ∧ Kp (InvP st0.toNat it pe cs (k + 1) s5))
            case first =>
              refine R_begin 999 (fun w9 => w9.cell? ⟨g, o + k * 4, none⟩ = some (.int .i64 x.kind) ∧ w9.cell? ⟨g, o + k * 4 + 1, none⟩ = some (.string x.name) ∧ w9.cell? ⟨g, o + k * 4 + 2, none⟩ = some (.bool x.normal) ∧ w9.cell? ⟨g, o + k * 4 + 3, none⟩ = some (.int .i64 x.tick)) (by kernel_rfl) ⟨R0, R1, R2, R3⟩ (fun HP0 => ?_)
              refine R_pure 0 rfl (by kernel_rfl) HP0 ?_
              apply Exists.intro
              refine ⟨fun _ _ _ h => h, .inl ⟨by kernel_rfl, fun w9 h9 => ?_⟩, fun HP1 => ?_⟩
              · clear h9; go_simp; first | done | rfl
              clear HP0
              refine R_pure 1 rfl (by kernel_rfl) HP1 ?_
              apply Exists.intro
              refine ⟨fun _ _ _ h => h, .inl ⟨by kernel_rfl, fun w9 h9 => ?_⟩, fun HP2 => ?_⟩
              · clear h9; go_simp; first | done | rfl
              clear HP1
              refine R_pure 2 rfl (by kernel_rfl) HP2 ?_
              apply Exists.intro
              refine ⟨fun _ _ _ h => h, .inl ⟨by kernel_rfl, fun w9 h9 => ?_⟩, fun HP3 => ?_⟩
              · clear h9; go_simp; first | done | rfl
              clear HP2
              refine R_pure 3 rfl (by kernel_rfl) HP3 ?_
              apply Exists.intro
              refine ⟨fun _ _ _ h => h, .inl ⟨by kernel_rfl, fun w9 h9 => ?_⟩, fun HP4 => ?_⟩
              · clear h9; go_simp; first | done | rfl
              clear HP3
              refine R_pure 4 rfl (by kernel_rfl) HP4 ?_
              apply Exists.intro
              refine ⟨fun _ _ _ h => h, .inl ⟨by kernel_rfl, fun w9 h9 => ?_⟩, fun HP5 => ?_⟩
              · clear h9; go_simp; first | done | rfl
              clear HP4
              refine R_take 5 rfl (by kernel_rfl) HP5 ?_
              apply Exists.intro
              refine ⟨fun _ _ _ h => h, .inl ⟨by kernel_rfl, fun w9 h9 => ?_⟩, fun HP6 => ?_⟩
              · obtain ⟨s1, s2, s3, s4⟩ := h9; go_simp; first | done | rfl
              clear HP5
              refine R_all [6] (by kernel_rfl) ?_
              refine AllR.cons (i := 6) rfl (fun K9 HK9 => ?_) ?_
              · go_simp
                refine HS.out.mono ?_
                rintro e w5 ⟨rfl, s5, ev5, re5, fg5, hB5, hI5⟩
                have B5 := Kp.mk hB5
                have I5 := Kp.mk hI5
                have L5 : Kp (s5.l.length ≤ 1000) := ⟨by have := hI5.inv.len; have := HC.out; omega⟩
                clear hB5 hI5
                go_simp
                refine HK9.out _ _ (.inr (HSC.out _ B5.out.below)) (fun HP7 => ?_)
                clear HK9 K9
                refine R_pure 7 rfl (by kernel_rfl) HP7 ?_
                apply Exists.intro
                refine ⟨fun _ _ _ h => h, .inl ⟨by kernel_rfl, fun w9 h9 => ?_⟩, fun HP8 => ?_⟩
                · clear h9; go_simp; first | done | rfl
                clear HP7
                refine R_pure 8 rfl (by kernel_rfl) HP8 ?_
                apply Exists.intro
                refine ⟨fun _ _ _ h => h, .inl ⟨by kernel_rfl, fun w9 h9 => ?_⟩, fun HP9 => ?_⟩
                · clear h9; go_simp; first | done | rfl
                clear HP8
                refine R_pure 9 rfl (by kernel_rfl) HP9 ?_
                apply Exists.intro
                refine ⟨fun _ _ _ h => h, .inl ⟨by kernel_rfl, fun w9 h9 => ?_⟩, fun HP10 => ?_⟩
                · clear h9; go_simp; first | done | rfl
                clear HP9
                refine R_pure 11 rfl (by kernel_rfl) HP10 ?_
                apply Exists.intro
                refine ⟨fun _ _ _ h => h, .inl ⟨by kernel_rfl, fun w9 h9 => ?_⟩, fun HP11 => ?_⟩
                · clear h9; go_simp; first | done | rfl
                clear HP10
                refine R_all [10] (by kernel_rfl) ?_
                refine AllR.cons (i := 10) rfl (fun K9 HK9 => ?_) ?_
                · go_simp
                  refine (running_any _ p lv ev5 s5 B5.out.sup L5.out).mono ?_
                  rintro e w6 ⟨v6, rfl, o6, f6, hb6⟩
                  obtain ⟨A6, c6, hv6, _⟩ := o6.shape
                  subst hv6
                  have B6 := Kp.mk (B5.out.keep hb6)
                  have O6 := Kp.mk o6
                  clear o6 f6 hb6
                  go_simp
                  refine HK9.out _ _ (.inr (HSC.out _ B6.out.below)) (fun HP12 => ?_)
                  clear HK9 K9
                  refine R_all [12] (by kernel_rfl) ?_
                  refine AllR.cons (i := 12) rfl (fun K9 HK9 => ?_) ?_
                  · go_simp
                    refine (rrunning_any _ q rl rr rf re5 s5 fg5 B6.out.ref L5.out).mono ?_
                    rintro e w7 ⟨v7, rfl, o7, f7, hb7⟩
                    obtain ⟨A7, c7, hv7, _⟩ := o7.shape
                    subst hv7
                    have B7 := Kp.mk (B6.out.keep hb7)
                    have O7 := Kp.mk o7
                    have O67 := Kp.mk (O6.out.below hb7)
                    clear o7 f7 hb7
                    go_simp
                    refine HK9.out _ _ (.inr (HSC.out _ B7.out.below)) (fun HP13 => ?_)
                    clear HK9 K9
                    refine R_all [13] (by kernel_rfl) ?_
                    refine AllR.cons (i := 13) rfl (fun K9 HK9 => ?_) ?_
                    · go_simp
                      refine (texts_eq _ (runningL s5.l) A6 A7 c6 c7 (O67.out.src rfl) (O7.out.src rfl) (by have := runningL_len s5.l; have := L5.out; omega)).mono ?_
                      rintro e w8 ⟨rfl, hb8⟩
                      have B8 := Kp.mk (B7.out.keep hb8)
                      have p9 : w8.cell? ⟨q, 9, none⟩ = some (.bool s5.ov) := B8.out.ref.c 9
                      clear hb8
                      go_simp
                      refine HK9.out _ _ (.inr (HSC.out _ B8.out.below)) (fun HP14 => ?_)
                      clear HK9 K9
                      refine R_pure 14 rfl (by kernel_rfl) HP14 ?_
                      apply Exists.intro
                      refine ⟨fun _ _ _ h => h, .inl ⟨by kernel_rfl, fun w9 h9 => ?_⟩, fun HP15 => ?_⟩
                      · clear h9; go_simp; first | done | rfl
                      clear HP14
                      refine R_pure 15 rfl (by kernel_rfl) HP15 ?_
                      apply Exists.intro
                      refine ⟨fun _ _ _ h => h, .inl ⟨by kernel_rfl, fun w9 h9 => ?_⟩, fun HP16 => ?_⟩
                      · clear h9; go_simp; first | done | rfl
                      clear HP15
                      refine R_pure 16 rfl (by kernel_rfl) HP16 ?_
                      apply Exists.intro
                      refine ⟨fun _ _ _ h => h, .inl ⟨by kernel_rfl, fun w9 h9 => ?_⟩, fun HP17 => ?_⟩
                      · clear h9; go_simp; first | done | rfl
                      clear HP16
                      refine R_pure 17 rfl (by kernel_rfl) HP17 ?_
                      apply Exists.intro
                      refine ⟨fun _ _ _ h => h, .inl ⟨by kernel_rfl, fun w9 h9 => ?_⟩, fun HP18 => ?_⟩
                      · clear h9; go_simp; first | done | rfl
                      clear HP17
                      refine R_pure 19 rfl (by kernel_rfl) HP18 ?_
                      apply Exists.intro
                      refine ⟨fun _ _ _ h => h, .inl ⟨by kernel_rfl, fun w9 h9 => ?_⟩, fun HP19 => ?_⟩
                      · clear h9; go_simp; first | done | rfl
                      clear HP18
                      refine R_pure 20 rfl (by kernel_rfl) HP19 ?_
                      apply Exists.intro
                      refine ⟨fun _ _ _ h => h, .inl ⟨by kernel_rfl, fun w9 h9 => ?_⟩, fun HP20 => ?_⟩
                      · clear h9; go_simp; first | done | rfl
                      clear HP19
                      refine R_pure 21 rfl (by kernel_rfl) HP20 ?_
                      apply Exists.intro
                      refine ⟨fun _ _ _ h => h, .inl ⟨by kernel_rfl, fun w9 h9 => ?_⟩, fun HP21 => ?_⟩
                      · clear h9; go_simp; first | done | rfl
                      clear HP20
                      refine R_all [18, 22] (by kernel_rfl) ?_
                      refine AllR.cons (i := 18) rfl (fun K9 HK9 => ?_) ?_
                      · go_simp
                        refine (over_any _ p lv ev5 s5 B8.out.sup).mono ?_
                        rintro e w9 ⟨rfl, rfl⟩
                        go_simp
                        refine HK9.out _ _ (.inr (HSC.out _ B8.out.below)) (fun HP22 => ?_)
                        clear HK9 K9
                        refine R_all [22] (by kernel_rfl) ?_
                        refine AllR.cons (i := 22) rfl (fun K9 HK9 => ?_) ?_
                        · go_simp
                          refine HK9.out _ _ (.inr (HSC.out _ B8.out.below)) (fun HP23 => ?_)
                          clear HK9 K9
                          refine R_pure 23 rfl (by kernel_rfl) HP23 ?_
                          apply Exists.intro
                          refine ⟨fun _ _ _ h => h, .inl ⟨by kernel_rfl, fun w9 h9 => ?_⟩, fun HP24 => ?_⟩
                          · clear h9; go_simp; first | done | rfl
                          clear HP23
                          refine R_pure 24 rfl (by kernel_rfl) HP24 ?_
                          apply Exists.intro
                          refine ⟨fun _ _ _ h => h, .inl ⟨by kernel_rfl, fun w9 h9 => ?_⟩, fun HP25 => ?_⟩
                          · clear h9; go_simp; first | done | rfl
                          clear HP24
                          refine R_pure 25 rfl (by kernel_rfl) HP25 ?_
                          apply Exists.intro
                          refine ⟨fun _ _ _ h => h, .inl ⟨by kernel_rfl, fun w9 h9 => ?_⟩, fun HP26 => ?_⟩
                          · clear h9; go_simp; first | done | rfl
                          clear HP25
                          refine R_pure 26 rfl (by kernel_rfl) HP26 ?_
                          apply Exists.intro
                          refine ⟨fun _ _ _ h => h, .inl ⟨by kernel_rfl, fun w9 h9 => ?_⟩, fun HP27 => ?_⟩
                          · clear h9; go_simp; first | done | rfl
                          clear HP26
                          refine R_pure 27 rfl (by kernel_rfl) HP27 ?_
                          apply Exists.intro
                          refine ⟨fun _ _ _ h => h, .inl ⟨by kernel_rfl, fun w9 h9 => ?_⟩, fun HP28 => ?_⟩
                          · clear h9; go_simp; first | done | rfl
                          clear HP27
                          refine R_pure 28 rfl (by kernel_rfl) HP28 ?_
                          apply Exists.intro
                          refine ⟨fun _ _ _ h => h, .inl ⟨by kernel_rfl, fun w9 h9 => ?_⟩, fun HP29 => ?_⟩
                          · clear h9; go_simp; first | done | rfl
                          clear HP28
                          refine R_pure 29 rfl (by kernel_rfl) HP29 ?_
                          apply Exists.intro
                          refine ⟨fun _ _ _ h => h, .inl ⟨by kernel_rfl, fun w9 h9 => ?_⟩, fun HP30 => ?_⟩
                          · clear h9; go_simp; first | done | rfl
                          clear HP29
                          refine R_pure 30 rfl (by kernel_rfl) HP30 ?_
                          apply Exists.intro
                          refine ⟨fun _ _ _ h => h, .inl ⟨by kernel_rfl, fun w9 h9 => ?_⟩, fun HP31 => ?_⟩
                          · clear h9; go_simp; first | done | rfl
                          clear HP30
                          refine R_take 31 rfl (by kernel_rfl) HP31 ?_
                          apply Exists.intro
                          refine ⟨fun _ _ _ h => h, .inl ⟨by kernel_rfl, fun w9 h9 => ?_⟩, fun HP32 => ?_⟩
                          · obtain ⟨s1, s2, s3, s4⟩ := h9; go_simp; first | done | rfl
                          clear HP31
                          refine R_pure 33 rfl (by kernel_rfl) HP32 ?_
                          apply Exists.intro
                          refine ⟨fun _ _ _ h => h, .inl ⟨by kernel_rfl, fun w9 h9 => ?_⟩, fun HP33 => ?_⟩
                          · clear h9; go_simp; first | done | rfl
                          clear HP32
                          refine R_pure 34 rfl (by kernel_rfl) HP33 ?_
                          apply Exists.intro
                          refine ⟨fun _ _ _ h => h, .inl ⟨by kernel_rfl, fun w9 h9 => ?_⟩, fun HP34 => ?_⟩
                          · clear h9; go_simp; first | done | rfl
                          clear HP33
                          refine R_pure 35 rfl (by kernel_rfl) HP34 ?_
                          apply Exists.intro
                          refine ⟨fun _ _ _ h => h, .inl ⟨by kernel_rfl, fun w9 h9 => ?_⟩, fun HP35 => ?_⟩
                          · clear h9; go_simp; first | done | rfl
                          clear HP34
                          refine R_pure 36 rfl (by kernel_rfl) HP35 ?_
                          apply Exists.intro
                          refine ⟨fun _ _ _ h => h, .inl ⟨by kernel_rfl, fun w9 h9 => ?_⟩, fun HP36 => ?_⟩
                          · clear h9; go_simp; first | done | rfl
                          clear HP35
                          refine R_pure 37 rfl (by kernel_rfl) HP36 ?_
                          apply Exists.intro
                          refine ⟨fun _ _ _ h => h, .inl ⟨by kernel_rfl, fun w9 h9 => ?_⟩, fun HP37 => ?_⟩
                          · clear h9; go_simp; first | done | rfl
                          clear HP36
                          refine R_take 38 rfl (by kernel_rfl) HP37 ?_
                          apply Exists.intro
                          refine ⟨fun _ _ _ h => h, .inl ⟨by kernel_rfl, fun w9 h9 => ?_⟩, fun HP38 => ?_⟩
                          · obtain ⟨s1, s2, s3, s4⟩ := h9; go_simp; first | done | rfl
                          clear HP37
                          refine R_all [32] (by kernel_rfl) ?_
                          refine AllR.cons (i := 32) rfl (fun K9 HK9 => ?_) ?_
                          · go_simp
                            refine (count_any _ p lv ev5 s5 x.tick B8.out.sup HTK.out I5.out.inv.pos (by have := I5.out.inv.ends; omega)).mono ?_
                            rintro e w9 ⟨rfl, rfl⟩
                            go_simp
                            refine HK9.out _ _ (.inr (HSC.out _ B8.out.below)) (fun HP39 => ?_)
                            clear HK9 K9
                            refine R_all [39] (by kernel_rfl) ?_
                            refine AllR.cons (i := 39) rfl (fun K9 HK9 => ?_) ?_
                            · go_simp
                              refine (rcount_any _ q rl rr rf re5 s5 fg5 x.tick B8.out.ref HTK.out I5.out.inv.pos (by have := I5.out.inv.ends; omega)).mono ?_
                              rintro e w9 ⟨rfl, hb9⟩
                              have B9 := Kp.mk (B8.out.keep hb9)
                              clear hb9
                              go_simp
                              refine HK9.out _ _ (.inr (HSC.out _ B9.out.below)) (fun HP40 => ?_)
                              clear HK9 K9
                              refine R_pure 40 rfl (by kernel_rfl) HP40 ?_
                              apply Exists.intro
                              refine ⟨fun _ _ _ h => h, .inl ⟨by kernel_rfl, fun w9 h9 => ?_⟩, fun HP41 => ?_⟩
                              · clear h9; go_simp; first | done | rfl
                              clear HP40
                              refine R_pure 41 rfl (by kernel_rfl) HP41 ?_
                              apply Exists.intro
                              refine ⟨fun _ _ _ h => h, .inl ⟨by kernel_rfl, fun w9 h9 => ?_⟩, fun HP42 => ?_⟩
                              · clear h9; go_simp; first | done | rfl
                              clear HP41
                              refine R_done (by kernel_rfl) ?_
                              go_wp2_with fail
                              go_meet
                              case rel => exact ⟨rfl, s5, ev5, re5, fg5, B9, I5⟩
                            exact AllR.nil
                          exact AllR.nil
                        exact AllR.nil
                      refine AllR.cons (i := 22) rfl (fun K9 HK9 => ?_) ?_
                      · go_simp
                        refine HK9.out _ _ (.inr (HSC.out _ B8.out.below)) (fun HP43 => ?_)
                        clear HK9 K9
                        refine R_all [18] (by kernel_rfl) ?_
                        refine AllR.cons (i := 18) rfl (fun K9 HK9 => ?_) ?_
                        · go_simp
                          refine (over_any _ p lv ev5 s5 B8.out.sup).mono ?_
                          rintro e w9 ⟨rfl, rfl⟩
                          go_simp
                          refine HK9.out _ _ (.inr (HSC.out _ B8.out.below)) (fun HP44 => ?_)
                          clear HK9 K9
                          refine R_pure 23 rfl (by kernel_rfl) HP44 ?_
                          apply Exists.intro
                          refine ⟨fun _ _ _ h => h, .inl ⟨by kernel_rfl, fun w9 h9 => ?_⟩, fun HP45 => ?_⟩
                          · clear h9; go_simp; first | done | rfl
                          clear HP44
                          refine R_pure 24 rfl (by kernel_rfl) HP45 ?_
                          apply Exists.intro
                          refine ⟨fun _ _ _ h => h, .inl ⟨by kernel_rfl, fun w9 h9 => ?_⟩, fun HP46 => ?_⟩
                          · clear h9; go_simp; first | done | rfl
                          clear HP45
                          refine R_pure 25 rfl (by kernel_rfl) HP46 ?_
                          apply Exists.intro
                          refine ⟨fun _ _ _ h => h, .inl ⟨by kernel_rfl, fun w9 h9 => ?_⟩, fun HP47 => ?_⟩
                          · clear h9; go_simp; first | done | rfl
                          clear HP46
                          refine R_pure 26 rfl (by kernel_rfl) HP47 ?_
                          apply Exists.intro
                          refine ⟨fun _ _ _ h => h, .inl ⟨by kernel_rfl, fun w9 h9 => ?_⟩, fun HP48 => ?_⟩
                          · clear h9; go_simp; first | done | rfl
                          clear HP47
                          refine R_pure 27 rfl (by kernel_rfl) HP48 ?_
                          apply Exists.intro
                          refine ⟨fun _ _ _ h => h, .inl ⟨by kernel_rfl, fun w9 h9 => ?_⟩, fun HP49 => ?_⟩
                          · clear h9; go_simp; first | done | rfl
                          clear HP48
                          refine R_pure 28 rfl (by kernel_rfl) HP49 ?_
                          apply Exists.intro
                          refine ⟨fun _ _ _ h => h, .inl ⟨by kernel_rfl, fun w9 h9 => ?_⟩, fun HP50 => ?_⟩
                          · clear h9; go_simp; first | done | rfl
                          clear HP49
                          refine R_pure 29 rfl (by kernel_rfl) HP50 ?_
                          apply Exists.intro
                          refine ⟨fun _ _ _ h => h, .inl ⟨by kernel_rfl, fun w9 h9 => ?_⟩, fun HP51 => ?_⟩
                          · clear h9; go_simp; first | done | rfl
                          clear HP50
                          refine R_pure 30 rfl (by kernel_rfl) HP51 ?_
                          apply Exists.intro
                          refine ⟨fun _ _ _ h => h, .inl ⟨by kernel_rfl, fun w9 h9 => ?_⟩, fun HP52 => ?_⟩
                          · clear h9; go_simp; first | done | rfl
                          clear HP51
                          refine R_take 31 rfl (by kernel_rfl) HP52 ?_
                          apply Exists.intro
                          refine ⟨fun _ _ _ h => h, .inl ⟨by kernel_rfl, fun w9 h9 => ?_⟩, fun HP53 => ?_⟩
                          · obtain ⟨s1, s2, s3, s4⟩ := h9; go_simp; first | done | rfl
                          clear HP52
                          refine R_pure 33 rfl (by kernel_rfl) HP53 ?_
                          apply Exists.intro
                          refine ⟨fun _ _ _ h => h, .inl ⟨by kernel_rfl, fun w9 h9 => ?_⟩, fun HP54 => ?_⟩
                          · clear h9; go_simp; first | done | rfl
                          clear HP53
                          refine R_pure 34 rfl (by kernel_rfl) HP54 ?_
                          apply Exists.intro
                          refine ⟨fun _ _ _ h => h, .inl ⟨by kernel_rfl, fun w9 h9 => ?_⟩, fun HP55 => ?_⟩
                          · clear h9; go_simp; first | done | rfl
                          clear HP54
                          refine R_pure 35 rfl (by kernel_rfl) HP55 ?_
                          apply Exists.intro
                          refine ⟨fun _ _ _ h => h, .inl ⟨by kernel_rfl, fun w9 h9 => ?_⟩, fun HP56 => ?_⟩
                          · clear h9; go_simp; first | done | rfl
                          clear HP55
                          refine R_pure 36 rfl (by kernel_rfl) HP56 ?_
                          apply Exists.intro
                          refine ⟨fun _ _ _ h => h, .inl ⟨by kernel_rfl, fun w9 h9 => ?_⟩, fun HP57 => ?_⟩
                          · clear h9; go_simp; first | done | rfl
                          clear HP56
                          refine R_pure 37 rfl (by kernel_rfl) HP57 ?_
                          apply Exists.intro
                          refine ⟨fun _ _ _ h => h, .inl ⟨by kernel_rfl, fun w9 h9 => ?_⟩, fun HP58 => ?_⟩
                          · clear h9; go_simp; first | done | rfl
                          clear HP57
                          refine R_take 38 rfl (by kernel_rfl) HP58 ?_
                          apply Exists.intro
                          refine ⟨fun _ _ _ h => h, .inl ⟨by kernel_rfl, fun w9 h9 => ?_⟩, fun HP59 => ?_⟩
                          · obtain ⟨s1, s2, s3, s4⟩ := h9; go_simp; first | done | rfl
                          clear HP58
                          refine R_all [32] (by kernel_rfl) ?_
                          refine AllR.cons (i := 32) rfl (fun K9 HK9 => ?_) ?_
                          · go_simp
                            refine (count_any _ p lv ev5 s5 x.tick B8.out.sup HTK.out I5.out.inv.pos (by have := I5.out.inv.ends; omega)).mono ?_
                            rintro e w9 ⟨rfl, rfl⟩
                            go_simp
                            refine HK9.out _ _ (.inr (HSC.out _ B8.out.below)) (fun HP60 => ?_)
                            clear HK9 K9
                            refine R_all [39] (by kernel_rfl) ?_
                            refine AllR.cons (i := 39) rfl (fun K9 HK9 => ?_) ?_
                            · go_simp
                              refine (rcount_any _ q rl rr rf re5 s5 fg5 x.tick B8.out.ref HTK.out I5.out.inv.pos (by have := I5.out.inv.ends; omega)).mono ?_
                              rintro e w9 ⟨rfl, hb9⟩
                              have B9 := Kp.mk (B8.out.keep hb9)
                              clear hb9
                              go_simp
                              refine HK9.out _ _ (.inr (HSC.out _ B9.out.below)) (fun HP61 => ?_)
                              clear HK9 K9
                              refine R_pure 40 rfl (by kernel_rfl) HP61 ?_
                              apply Exists.intro
                              refine ⟨fun _ _ _ h => h, .inl ⟨by kernel_rfl, fun w9 h9 => ?_⟩, fun HP62 => ?_⟩
                              · clear h9; go_simp; first | done | rfl
                              clear HP61
                              refine R_pure 41 rfl (by kernel_rfl) HP62 ?_
                              apply Exists.intro
                              refine ⟨fun _ _ _ h => h, .inl ⟨by kernel_rfl, fun w9 h9 => ?_⟩, fun HP63 => ?_⟩
                              · clear h9; go_simp; first | done | rfl
                              clear HP62
                              refine R_done (by kernel_rfl) ?_
                              go_wp2_with fail
                              go_meet
                              case rel => exact ⟨rfl, s5, ev5, re5, fg5, B9, I5⟩
                            exact AllR.nil
                          exact AllR.nil
                        exact AllR.nil
                      exact AllR.nil
                    exact AllR.nil
                  exact AllR.nil
                exact AllR.nil
              exact AllR.nil
            obtain ⟨rfl, s5, ev5, re5, fg5, B9, I5⟩ := hcut
            go_wp2_with fail
            go_roundw
            case rel => exact ⟨k + 1, s5, ev5, re5, fg5, by omega, by go_num, B9, I5⟩
            case measure => simp [intOf]; omega
          · have hd5 : decide ((k : Int) < ops.length) = false := by simp; omega
            go_wp2_with fail
            refine (known_any _).mono ?_
            rintro e w4 ⟨rfl, hb4⟩
            go_wp2
            go_ret
            exact ⟨rfl, bstep HB.out.below HB.out.below.size hb4⟩


end Go.Proofs.Ytiedfckgkjcheaa
