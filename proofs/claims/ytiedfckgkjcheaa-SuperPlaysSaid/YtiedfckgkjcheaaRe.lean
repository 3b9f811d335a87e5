/- What Exit of parleyref29 answers; its conditions stand in the statement. -/
import Derived.Test.YtiedfckgkjcheaaRd
namespace Go.Proofs.Ytiedfckgkjcheaa
open Go.RowKit

def FRX (q : Nat) (rv fv ev : Value) : Nat → Prop := fun k => k = q ∨ rv.ownBlock = some k ∨ fv.ownBlock = some k ∨ ev.ownBlock = some k
def RExitPost (w : World) (q : Nat) (lv rv fv ev : Value) (s : SupM) (nm : ByteArray) (normal : Bool) (tick : Int) (e : Ending) (w' : World) : Prop :=
  ∃ r, FirstRun s.l nm r ∧ ((exitErr s r tick ≠ 0 ∧ e = .returned (.tuple #[.slice none 0 0, .int .i64 (exitErr s r tick)]) ∧ Below w.heap.size w w') ∨
    (exitErr s r tick = 0 ∧ ∃ (k : Nat) (c : Ch) (v ev' : Value) (fg' : List Bool), r = k ∧ s.l[k]? = some c ∧ e = .returned (.tuple #[v, .int .i64 0]) ∧ Own w' 43 eAM v (exitS s k c normal tick).2 ∧ Fresh w v ∧ IsRef w' q lv rv fv ev' (exitS s k c normal tick).1 fg' ∧ Same w ev ev' ∧ Chg (FRX q rv fv ev) w w'))

theorem IsRef.setE {w : World} {q : Nat} {lv rv fv ev ev' : Value} {s : SupM} {fg : List Bool} {l' : List Int} (hb : w.heap[q]? = some (.cells (RefC s lv rv fv ev) 55 (0, 0))) (hl : Own w 49 eCS lv (s.l.map kid)) (hr : Own w 4 eBool rv (s.l.map (·.runs))) (hf : Own w 4 eBool fv fg) (he : Own w 2 eI64 ev' l')
    (h1 : fg.length = s.l.length) (h2 : ∀ g, rv.ownBlock = some g → fv.ownBlock ≠ some g) :
    IsRef (w.setCell ⟨q, 6, none⟩ ev') q lv rv fv ev' { s with ends := l' } fg := by
  refine ⟨?_, hl.set_ne (hl.ne hb (by decide)) _, hr.set_ne (hr.ne hb (by decide)) _, hf.set_ne (hf.ne hb (by decide)) _, he.set_ne (he.ne hb (by decide)) _, h1, h2⟩
  rw [blk_set hb]
  rfl
theorem apart_new {w w' : World} {v : Value} {T : TypeId} {α : Type} {E : El α} {l : List α} {n c : Nat} (h : Own w T E v l) (hs : w.heap.size ≤ w'.heap.size) : ∀ g, (Value.slice (some ⟨w'.heap.size, 0, none⟩) n c).ownBlock = some g → v.ownBlock ≠ some g := by
  intro g hg e
  have := h.lt e
  have e9 : w'.heap.size = g := by simpa [Value.ownBlock] using hg
  omega

/-- What stands once those that go with a child have been stopped. -/
def DownSt (w6 w : World) (q : Nat) (lv rv fv ev av : Value) (s : SupM) (k : Nat) (c : Ch) (tick : Int) (E : List Int) (fg : List Bool) (o : Value) : Prop :=
  ∃ l2 ag2, Own w 43 eAM o (dA (exL s k c) (withF s.st k) 0) ∧ Fresh w6 o ∧ IsRef w q lv rv fv ev { s with la := tick, ends := E, l := l2 } fg ∧ Own w 4 eBool av ag2 ∧ PW (exL s k c) l2 (stopF (withF s.st k) id) ∧ PW (List.replicate s.l.length false) ag2 (agF (exL s k c) (withF s.st k) yesC 0) ∧ Chg (FD rv av) w6 w

def CutA (stn : Nat) (P : Prop) (o : Value) (w6 w7 : World) : Prop := (stn = 2 ∧ P) ∨ (stn ≠ 2 ∧ o = .slice none 0 0 ∧ w7 = w6)

set_option maxRecDepth 100000 in
set_option maxHeartbeats 4000000 in
theorem rexit_any (w : World) (q : Nat) (lv rv fv ev : Value) (s : SupM) (fg : List Bool) (hs : IsRef w q lv rv fv ev s fg) (nm : ByteArray) (normal : Bool) (tick : Int) (hn : s.l.length ≤ 1000) (hne : s.ends.length ≤ 10000000000000) (hpos : ∀ t ∈ s.ends, 0 ≤ t) (hla : 0 ≤ s.la) (hst : s.st = 1 ∨ s.st = 2 ∨ s.st = 3)
    (hu : (s.l.map (·.name)).Nodup) :
    Calls Try.prog 36 #[.pointer (some ⟨q, 0, none⟩), .string nm, .bool normal, .int .i64 tick] w (RExitPost w q lv rv fv ev s nm normal tick) := by
  obtain ⟨r0, hr0⟩ := firstRun_ex s.l nm
  have h8 : w.cell? ⟨q, 8, none⟩ = some (.bool s.sd) := hs.c 8
  have h9 : w.cell? ⟨q, 9, none⟩ = some (.bool s.ov) := hs.c 9
  by_cases hnr : s.sd = false ∨ s.ov = true
  · have he : exitErr s r0 tick = 250 := by unfold exitErr; rw [if_pos hnr]
    have hfin : RExitPost w q lv rv fv ev s nm normal tick (.returned (.tuple #[.slice none 0 0, .int .i64 250])) w := ⟨r0, hr0, .inl ⟨by rw [he]; decide, by rw [he], Below.refl _ _⟩⟩
    have HFIN := Kp.mk hfin
    clear hfin he hr0
    cases hd : s.sd
    · rw [hd] at h8
      go_enter Try.func36, Try.ntmps36
      go_wp2
      go_ret2
      exact HFIN.out
    · have ho : s.ov = true := by rcases hnr with h | h; rw [hd] at h; cases h; exact h
      rw [hd] at h8
      rw [ho] at h9
      go_enter Try.func36, Try.ntmps36
      go_wp2
      go_ret2
      exact HFIN.out
  have hd : s.sd = true := by cases h : s.sd; exact absurd (.inl h) hnr; rfl
  have ho : s.ov = false := by cases h : s.ov; rfl; exact absurd (.inr h) hnr
  rw [hd] at h8
  rw [ho] at h9
  have HER : Kp (∀ r, exitErr s r tick = if r < 0 then 290 else if tick < 0 ∨ 1152921504606846976 < tick ∨ tick < s.la then 1 else 0) := ⟨fun r => by unfold exitErr; rw [if_neg hnr]⟩
  clear hr0 hnr
  obtain ⟨A1, c1, A2, c2, A3, c3, e1, e2, e3, hA⟩ := hs.shapes
  subst e1
  subst e2
  subst e3
  have HA := Kp.mk hA
  have HU := Kp.mk hu
  have HPOS := Kp.mk hpos
  have HST := Kp.mk hst
  clear hA hu hpos hst
  have h3 : w.cell? ⟨q, 3, none⟩ = some (.slice A1 s.l.length c1) := hs.c 3
  have h4 : w.cell? ⟨q, 4, none⟩ = some (.slice A2 s.l.length c2) := hs.c 4
  have h7 : w.cell? ⟨q, 7, none⟩ = some (.int .i64 s.la) := hs.c 7
  go_enter Try.func36, Try.ntmps36
  go_wp2
  go_loop [10, 11] (fun a i => ∃ (k : Nat) (r : Int), k ≤ s.l.length ∧ a = .int .i64 r ∧ i = .int .i64 k ∧ Kp (LastR s.l nm k r)) (fun _ i => s.l.length - (intOf i).toNat)
  case atStart => exact ⟨0, -1, Nat.zero_le _, rfl, rfl, ⟨LastR.zero _ _⟩⟩
  case round =>
    obtain ⟨k, r, hk, rfl, rfl, hlast⟩ := hrel
    by_cases hlt : k < s.l.length
    · obtain ⟨g1, g2, g3, r1, r2, r3⟩ := HA.out (by omega)
      subst r1
      subst r2
      subst r3
      have hx := List.getElem?_eq_getElem hlt
      have q0 := (hs.kidc k _ hx).1
      have q2 := hs.runc k _ hx
      obtain ⟨x, hxx⟩ : ∃ x, x = s.l[k] := ⟨_, rfl⟩
      rw [← hxx] at q0 q2 hx
      have HX := Kp.mk hx
      clear hx hxx
      cases hq : (x.name.toList == nm.toList)
      · have hno : Kp ((beqS x.name nm && x.runs) = false) := ⟨by unfold beqS; rw [hq]; rfl⟩
        go_wp2
        go_round
        case rel => exact ⟨k + 1, r, by omega, rfl, by go_num, ⟨hlast.out.no HX.out hno.out⟩⟩
        case measure => simp [intOf]; omega
      · cases hr : x.runs
        · have hno : Kp ((beqS x.name nm && x.runs) = false) := ⟨by rw [hr, Bool.and_false]⟩
          rw [hr] at q2
          go_wp2
          go_round
          case rel => exact ⟨k + 1, r, by omega, rfl, by go_num, ⟨hlast.out.no HX.out hno.out⟩⟩
          case measure => simp [intOf]; omega
        · have hno : Kp ((beqS x.name nm && x.runs) = true) := ⟨by unfold beqS; rw [hq, hr]; rfl⟩
          rw [hr] at q2
          go_wp2
          go_round
          case rel => exact ⟨k + 1, k, by omega, rfl, by go_num, ⟨hlast.out.yes HU.out HX.out hno.out⟩⟩
          case measure => simp [intOf]; omega
    · obtain rfl : k = s.l.length := by omega
      have HFR := Kp.mk hlast.out.first
      clear hlast hlt hk
      by_cases hr0 : r < 0
      · have he : Kp (exitErr s r tick = 290) := ⟨by rw [HER.out, if_pos hr0]⟩
        go_wp2
        go_ret2
        exact ⟨r, HFR.out, .inl ⟨by rw [he.out]; decide, by rw [he.out]; rfl, Below.refl _ _⟩⟩
      have hrd : decide (r < 0) = false := by simpa using hr0
      by_cases ht1 : tick < s.la
      · have he : Kp (exitErr s r tick = 1) := ⟨by rw [HER.out, if_neg hr0, if_pos (.inr (.inr ht1))]⟩
        go_wp2
        go_ret2
        exact ⟨r, HFR.out, .inl ⟨by rw [he.out]; decide, by rw [he.out]; rfl, Below.refl _ _⟩⟩
      have ht1d : decide (tick < s.la) = false := by simpa using ht1
      by_cases ht2 : 1152921504606846976 < tick
      · have he : Kp (exitErr s r tick = 1) := ⟨by rw [HER.out, if_neg hr0, if_pos (.inr (.inl ht2))]⟩
        go_wp2
        go_ret2
        exact ⟨r, HFR.out, .inl ⟨by rw [he.out]; decide, by rw [he.out]; rfl, Below.refl _ _⟩⟩
      have ht2d : decide (1152921504606846976 < tick) = false := by simpa using ht2
      have HE : Kp (exitErr s r tick = 0) := ⟨by rw [HER.out, if_neg hr0, if_neg (by omega)]⟩
      have ht0 : 0 ≤ tick := by omega
      have ht3 : tick ≤ 1152921504606846976 := by omega
      clear ht1 ht2
      obtain ⟨k, c, hk, rfl, hkc⟩ : ∃ (k : Nat) (c : Ch), k < s.l.length ∧ r = (k : Int) ∧ s.l[k]? = some c := by
        rcases HFR.out with ⟨k, h1, h2, ⟨c, h3, _⟩, _⟩ | ⟨h1, _⟩
        · exact ⟨k, c, h1, h2, h3⟩
        · omega
      obtain ⟨g1, g2, g3, r1, r2, r3⟩ := HA.out (by omega)
      subst r1
      subst r2
      subst r3
      have hs1 := hs.setF (u := .int .i64 tick) (s' := { s with la := tick }) 7 rfl rfl rfl
      have hs2 := hs1.setRuns rfl k c hkc false
      have nq2 : q ≠ g2 := fun e => hs.r.ne hs.blk (by decide) (by rw [e]; rfl)
      have f7 : w.frozen? ⟨q, 7, none⟩ = false := hs.fz 7
      have f2 : w.frozen? ⟨g2, k, none⟩ = false := hs.r.frozen _
      have q2 := hs.runc k _ hkc
      have k0 : (0 : Int) ≤ (k : Int) := by omega
      have k1 : (k : Int) < (s.l.length : Int) := by omega
      have HKC := Kp.mk hkc
      clear hkc
      go_upto_region 15 with fail
      have hc2 : Chg (FRX q (.slice (some ⟨g2, 0, none⟩) s.l.length c2) (.slice (some ⟨g3, 0, none⟩) s.l.length c3) ev) w ((w.setCell ⟨q, 7, none⟩ (.int .i64 tick)).setCell ⟨g2, k, none⟩ (.bool false)) :=
        ((Chg.refl _ w).set (p := ⟨q, 7, none⟩) (.inl (.inl rfl)) _).set (p := ⟨g2, k, none⟩) (.inl (.inr (.inl rfl))) _
      obtain ⟨w2, hw2⟩ : ∃ w2, w2 = (w.setCell ⟨q, 7, none⟩ (.int .i64 tick)).setCell ⟨g2, k, none⟩ (.bool false) := ⟨_, rfl⟩
      rw [← hw2] at hs2 hc2 ⊢
      clear hs1 h8 h9 h3 h4 h7 f7 f2 q2 hs hw2
      have hx2 : (exL s k c)[k]? = some (setR false c) := by rw [exL_get HKC.out k c HKC.out, if_pos rfl]
      have hk3 := hs2.kidc k _ hx2
      have p3 : w2.cell? ⟨q, 3, none⟩ = some (.slice (some ⟨g1, 0, none⟩) s.l.length c1) := hs2.c 3
      have p1 : w2.cell? ⟨g1, k * 2 + 1, none⟩ = some (.int .i64 c.rs) := hk3.2
      clear hk3 hx2
      by_cases h3 : c.rs = 3
      · have h3d : (c.rs == 3) = true := by simpa using h3
        have p5 : w2.cell? ⟨q, 5, none⟩ = some (.slice (some ⟨g3, 0, none⟩) s.l.length c3) := hs2.c 5
        obtain ⟨b5, p6⟩ := hs2.fgc k (by show k < (s.l.set k (setR false c)).length; simpa using hk)
        have f6 : w2.frozen? ⟨g3, k, none⟩ = false := hs2.f.frozen _
        have H3 := Kp.mk h3
        clear h3
        have e : Kp (exitS s k c normal tick = ({ s with la := tick, l := s.l.set k { setR false c with gone := true } }, [])) := ⟨by unfold exitS; rw [if_pos H3.out]⟩
        have h9 := hs2.setFg (by show s.l.length = (s.l.set k (setR false c)).length; simp) k (by show k < (s.l.set k (setR false c)).length; simpa using hk) true
        have h10 : IsRef (w2.setCell ⟨g3, k, none⟩ (.bool true)) q (.slice (some ⟨g1, 0, none⟩) s.l.length c1) (.slice (some ⟨g2, 0, none⟩) s.l.length c2) (.slice (some ⟨g3, 0, none⟩) s.l.length c3) ev (exitS s k c normal tick).1 (fg.set k true) := by
          rw [e.out]
          refine h9.congr ⟨rfl, rfl, rfl, rfl, rfl, rfl, rfl⟩ ?_ ?_
          · show (s.l.set k _).map kid = (s.l.set k (setR false c)).map kid
            exact (kid_set s.l k c { setR false c with gone := true } HKC.out rfl).trans (kid_set s.l k c (setR false c) HKC.out rfl).symm
          · show (s.l.set k _).map (·.runs) = (s.l.set k (setR false c)).map (·.runs)
            rw [runs_set, runs_set]
        have H10 := Kp.mk h10
        have H11 := Kp.mk (hc2.set (p := ⟨g3, k, none⟩) (.inl (.inr (.inr (.inl rfl)))) (.bool true))
        clear h9 h10
        go_wp2
        go_ret2
        exact ⟨k, HFR.out, .inr ⟨HE.out, k, c, _, ev, _, rfl, HKC.out, rfl, by rw [e.out]; exact Own.nil _ _ _, Fresh.nil _ _ _, H10.out, .inl rfl, H11.out⟩⟩
      have h3d : (c.rs == 3) = false := by simpa using h3
      have H3 := Kp.mk h3
      clear h3
      by_cases h2 : c.rs = 2 ∧ normal = true
      · have h2d : (c.rs == 2) = true := by simpa using h2.1
        have H2 := Kp.mk h2
        have e : Kp (exitS s k c normal tick = ({ s with la := tick, l := s.l.set k (setR false c) }, [])) := ⟨by unfold exitS; rw [if_neg H3.out, if_pos H2.out]⟩
        have hb : normal = true := h2.2
        subst hb
        clear h2 H2
        go_wp2
        go_ret2
        exact ⟨k, HFR.out, .inr ⟨HE.out, k, c, _, ev, _, rfl, HKC.out, rfl, by rw [e.out]; exact Own.nil _ _ _, Fresh.nil _ _ _, by rw [e.out]; exact hs2, .inl rfl, hc2⟩⟩
      have hcl : Kp (∀ v : Bool, ((c.rs == 2) = true → normal = false)) := ⟨fun _ h => by
        cases hnm : normal
        · rfl
        · exact absurd ⟨by simpa using h, hnm⟩ h2⟩
      have H2 := Kp.mk h2
      clear h2
      go_upto_region 18 with fail
      go_cut [103] from 86 to 103 (fun v wc => v = .bool false ∧ wc = w2)
      case first =>
        cases h2d : (c.rs == 2)
        · go_wp2_with fail
          go_meet
          case rel => exact ⟨rfl, rfl⟩
        · have hnm := hcl.out true h2d
          subst hnm
          go_wp2_with fail
          go_meet
          case rel => exact ⟨rfl, rfl⟩
      obtain ⟨rfl, rfl⟩ := hcut
      have p6 : wc.cell? ⟨q, 6, none⟩ = some ev := hs2.c 6
      have pf6 : wc.frozen? ⟨q, 6, none⟩ = false := hs2.fz 6
      have pl := lt_of_block hs2.blk
      have hown : Own wc 2 eI64 ev s.ends := hs2.e
      have hene : ev.ownBlock ≠ some q := hs2.e.ne hs2.blk (by decide)
      have hlw : w.heap.size ≤ wc.heap.size := hc2.size
      have hlb : ∀ g, (Value.slice (some ⟨g1, 0, none⟩) s.l.length c1).ownBlock = some g → ¬ ev.ownBlock = some g := fun g hg hF => by obtain ⟨cur, hcur⟩ := hs2.l.blk' hg; exact hs2.e.ne hcur (by decide) hF
      have hrb : ∀ g, (Value.slice (some ⟨g2, 0, none⟩) s.l.length c2).ownBlock = some g → ¬ ev.ownBlock = some g := fun g hg hF => by obtain ⟨cur, hcur⟩ := hs2.r.blk' hg; exact hs2.e.ne hcur (by decide) hF
      have hfb : ∀ g, (Value.slice (some ⟨g3, 0, none⟩) s.l.length c3).ownBlock = some g → ¬ ev.ownBlock = some g := fun g hg hF => by obtain ⟨cur, hcur⟩ := hs2.f.blk' hg; exact hs2.e.ne hcur (by decide) hF
      have HLB := Kp.mk hlb
      have HRB := Kp.mk hrb
      have HFB := Kp.mk hfb
      have HEN := Kp.mk hene
      clear hlb hrb hfb hene
      go_upto_region 21 with (at_builtin; refine app1_ev T53 tick rfl _ _ rfl hown rfl rfl rfl (by simp) rfl (by omega) (by omega) ?_; intro A' n' c' w3 a0 a1 a2 a3; have B3 := a2.at hs2.blk HEN.out; have p6' := blk_c B3 6; have pf6' := blk_f B3 6; have pl' := lt_of_block B3)
      obtain ⟨v6, hv6⟩ : ∃ v, v = Value.slice A' n' c' := ⟨_, rfl⟩
      rw [← hv6] at a1 a3 ⊢
      have hs3 : IsRef (w3.setCell ⟨q, 6, none⟩ v6) q (.slice (some ⟨g1, 0, none⟩) s.l.length c1) (.slice (some ⟨g2, 0, none⟩) s.l.length c2) (.slice (some ⟨g3, 0, none⟩) s.l.length c3) v6 { s with la := tick, l := exL s k c, ends := s.ends ++ [tick] } fg :=
        IsRef.setE (s := { s with la := tick, l := exL s k c }) B3 (hs2.l.frame a2 HLB.out) (hs2.r.frame a2 HRB.out) (hs2.f.frame a2 HFB.out) a1 hs2.fl hs2.rf
      have hc3 := (hc2.trans a2 (fun n _ h => .inr (.inr (.inr h)))).set (p := ⟨q, 6, none⟩) (.inl (.inl rfl)) v6
      have HSAME : Kp (Same w ev v6) := ⟨by
        rcases a3 with h | ⟨g, h, hg⟩
        · exact .inl h
        · exact .inr ⟨g, h, by omega⟩⟩
      obtain ⟨w4, hw4⟩ : ∃ w4, w4 = w3.setCell ⟨q, 6, none⟩ v6 := ⟨_, rfl⟩
      rw [← hw4] at hs3 hc3 ⊢
      clear hs2 hc2 p3 p1 p6 pf6 pl hown hlw a0 a1 a2 a3 B3 p6' pf6' pl' hv6 hw4 HLB HRB HFB HEN
      have p3 : w4.cell? ⟨q, 3, none⟩ = some (.slice (some ⟨g1, 0, none⟩) s.l.length c1) := hs3.c 3
      have nf : ∀ b : Nat, ¬ NoF b := fun _ h => h
      have NF := Kp.mk nf
      clear nf
      go_upto_region 22 with (at_make; refine mk_ev Try.underlying52 (e := 4) (z := .bool false) (by_ := 1) (by kernel_rfl) rfl (E := eBool) false rfl rfl rfl _ _ rfl s.l.length rfl rfl (by omega) (by omega) ?_; intro w5 m1 m2 m3)
      have KQ : Kp (q ≠ w4.heap.size) := ⟨by have := lt_of_block hs3.blk; omega⟩
      have KL : Kp (∀ g, (Value.slice (some ⟨g1, 0, none⟩) s.l.length c1).ownBlock = some g → g ≠ w4.heap.size) := ⟨fun g hg => by have := hs3.l.lt hg; omega⟩
      have KR : Kp (∀ g, (Value.slice (some ⟨g2, 0, none⟩) s.l.length c2).ownBlock = some g → g ≠ w4.heap.size) := ⟨fun g hg => by have := hs3.r.lt hg; omega⟩
      have KF : Kp (∀ g, (Value.slice (some ⟨g3, 0, none⟩) s.l.length c3).ownBlock = some g → g ≠ w4.heap.size) := ⟨fun g hg => by have := hs3.f.lt hg; omega⟩
      have KE : Kp (∀ g, v6.ownBlock = some g → g ≠ w4.heap.size) := ⟨fun g hg => by have := hs3.e.lt hg; omega⟩
      have KW : Kp (w.heap.size ≤ w4.heap.size) := ⟨hc3.size⟩
      have hs5 := hs3.frame m2 (NF.out _) (fun _ _ => NF.out _) (fun _ _ => NF.out _) (fun _ _ => NF.out _) (fun _ _ => NF.out _)
      have hc5 := hc3.trans m2 (fun n _ h => (NF.out n h).elim)
      obtain ⟨bA, hbA⟩ : ∃ b, b = w4.heap.size := ⟨_, rfl⟩
      rw [← hbA] at KQ KL KR KF KE KW m1 ⊢
      clear hs3 hc3 p3 m2 m3 hbA
      obtain ⟨E, hE⟩ : ∃ E, E = s.ends ++ [tick] := ⟨_, rfl⟩
      have KEE := Kp.mk hE
      have hEl : E.length ≤ 10000000000001 := by rw [hE]; simp; omega
      have HEP : Kp (∀ t ∈ E, 0 ≤ t) := ⟨fun t ht => by
        rw [hE, List.mem_append] at ht
        rcases ht with h | h
        · exact HPOS.out t h
        · simp at h; omega⟩
      rw [← hE] at hs5
      clear hE
      have p1 : w5.cell? ⟨q, 1, none⟩ = some (.int .i64 s.it) := hs5.c 1
      have hct := countL_le E tick s.pe
      go_cut [127] from 120 to 127 (fun v w6 => v = .bool (overB s tick) ∧ Below w5.heap.size w5 w6)
      case first =>
        go_region_with (go_at_call 22; refine (rcount_any _ q _ _ _ _ _ fg tick hs5.drew (by omega) HEP.out (by show E.length ≤ _; omega)).mono ?_; rintro e w7 ⟨rfl, hb7⟩; have p1' : w7.cell? ⟨q, 1, none⟩ = some (.int .i64 s.it) := (hs5.drew.below hb7).c 1)
        all_goals go_wp2_with fail
        all_goals go_meet
        all_goals exact ⟨by rw [KEE.out]; rfl, (below_drewN (Below.refl _ _) 1).trans hb7⟩
      obtain ⟨rfl, hb6⟩ := hcut
      have hs6 := hs5.below hb6
      have m6 := m1.below hb6
      have hc6 := hc5.then (Chg.of_below hb6 _)
      obtain ⟨w6, hw6⟩ : ∃ w6, w6 = wc := ⟨_, rfl⟩
      subst hw6
      clear hs5 m1 hc5 p1 hb6 hct
      have hLl : (exL s k c).length = s.l.length := exL_len s k c
      have HLL := Kp.mk hLl
      clear hLl
      by_cases hov : overB s tick = true
      · rw [hov]
        have hov' : s.it < (countL (s.ends ++ [tick]) tick s.pe : Int) := by simpa [overB] using hov
        have HOV : Kp (exitS s k c normal tick = ({ s with la := tick, l := (s.l.set k (setR false c)).map (setR false), ends := s.ends ++ [tick], ov := true }, dA (s.l.set k (setR false c)) (fun _ => true) 0)) := ⟨by
          unfold exitS
          rw [if_neg H3.out, if_neg H2.out, if_pos hov']⟩
        clear hov'
        have hs7 := hs6.setF (u := .bool true) (s' := { s with la := tick, l := exL s k c, ends := E, ov := true }) 9 rfl rfl rfl
        have m7 := m6.set_ne (q := q) (k := 9) (m6.ne hs6.blk (by decide)) (.bool true)
        have hc7 := hc6.set (p := ⟨q, 9, none⟩) (.inl (.inl rfl)) (.bool true)
        have p9 : w6.cell? ⟨q, 9, none⟩ = some (.bool s.ov) := hs6.c 9
        have pf9 : w6.frozen? ⟨q, 9, none⟩ = false := hs6.fz 9
        have HS7 := Kp.mk hs7
        have HM7 := Kp.mk m7
        have HC7 := Kp.mk hc7
        clear hs7 m7 hc7
        go_wp2_with fail
        refine (down_any _ q _ _ _ _ _ _ fg 0 (List.replicate s.l.length false) (some ⟨bA, 0, none⟩) s.l.length (by show Value.slice _ s.l.length _ = Value.slice _ (exL s k c).length _; rw [HLL.out]) HS7.out HM7.out (by show _ = (exL s k c).length; rw [HLL.out]; simp) ?h1 ?h2 (by show (exL s k c).length ≤ _; rw [HLL.out]; exact hn) (Nat.zero_le _)).mono ?_
        case h1 =>
          intro g hg e
          exact KR.out g e (by simpa [Value.ownBlock] using hg.symm)
        case h2 =>
          intro g hg e
          exact KF.out g e (by simpa [Value.ownBlock] using hg.symm)
        rintro e w8 ⟨v, l', st', rfl, o8, f8, s8, _, pl, _, c8⟩
        have el := downF_all pl
        go_wp2
        go_ret2
        rw [el] at s8
        refine ⟨k, HFR.out, .inr ⟨HE.out, k, c, v, v6, fg, rfl, HKC.out, rfl, by rw [HOV.out]; exact o8, f8.up HC7.out.size, ?_, HSAME.out, ?_⟩⟩
        · rw [HOV.out, ← KEE.out]; exact s8
        · refine HC7.out.trans c8 fun n hn h => ?_
          rcases h with h | h
          · exact .inr (.inl h)
          · have e9 : bA = n := by simpa [Value.ownBlock] using h
            have := KW.out
            omega
      have hov' : ¬ s.it < (countL (s.ends ++ [tick]) tick s.pe : Int) := by simpa [overB] using hov
      have hovd : overB s tick = false := by simpa using hov
      rw [hovd]
      have HOV := Kp.mk hov'
      clear hov hov'
      have hst1 : ∃ stn : Nat, s.st = (stn : Int) ∧ (stn = 1 ∨ stn = 2 ∨ stn = 3) := by
        rcases HST.out with h | h | h
        · exact ⟨1, by rw [h]; rfl, .inl rfl⟩
        · exact ⟨2, by rw [h]; rfl, .inr (.inl rfl)⟩
        · exact ⟨3, by rw [h]; rfl, .inr (.inr rfl)⟩
      obtain ⟨stn, hstn, hst3⟩ := hst1
      have KST := Kp.mk hstn
      have KS3 := Kp.mk hst3
      have p0 : w6.cell? ⟨q, 0, none⟩ = some (.int .i64 (stn : Int)) := by rw [← hstn]; exact hs6.c 0
      clear hstn hst3
      go_upto_if 138 with fail
      go_cut [13] from 138 to 141 (fun o w7 => Kp (CutA stn (DownSt w6 w7 q (.slice (some ⟨g1, 0, none⟩) s.l.length c1) (.slice (some ⟨g2, 0, none⟩) s.l.length c2) (.slice (some ⟨g3, 0, none⟩) s.l.length c3) v6 (.slice (some ⟨bA, 0, none⟩) s.l.length s.l.length) s k c tick E fg o) o w6 w7))
      case first =>
        by_cases h2s : stn = 2
        · subst h2s
          go_wp2_with fail
          refine (down_any _ q _ _ _ _ _ _ fg 0 (List.replicate s.l.length false) (some ⟨bA, 0, none⟩) s.l.length (by show Value.slice _ s.l.length _ = Value.slice _ (exL s k c).length _; rw [HLL.out]) hs6 m6 (by show _ = (exL s k c).length; rw [HLL.out]; simp) (fun g hg e => KR.out g e (by simpa [Value.ownBlock] using hg.symm)) (fun g hg e => KF.out g e (by simpa [Value.ownBlock] using hg.symm)) (by show (exL s k c).length ≤ _; rw [HLL.out]; exact hn) (Nat.zero_le _)).mono ?_
          rintro e w8 ⟨v, l', st', rfl, o8, f8, s8, m8, pl, pa, c8⟩
          have hmt := exL_mt HKC.out 0 (.inl ⟨by rw [KST.out]; rfl, rfl⟩)
          have HD := Kp.mk (⟨l', st', by rw [← dA_of _ _ 0 (Nat.zero_le _) hmt]; exact o8, f8, s8, m8, stop_of _ 0 hmt pl, ag_of _ 0 hmt pa, c8⟩ : DownSt w6 w8 q (.slice (some ⟨g1, 0, none⟩) s.l.length c1) (.slice (some ⟨g2, 0, none⟩) s.l.length c2) (.slice (some ⟨g3, 0, none⟩) s.l.length c3) v6 (.slice (some ⟨bA, 0, none⟩) s.l.length s.l.length) s k c tick E fg v)
          clear hmt o8 f8 s8 m8 pl pa c8
          go_wp2_with fail
          go_meet
          case rel => exact ⟨.inl ⟨rfl, HD.out⟩⟩
        · have hb2 : ((stn : Int) == 2) = false := by simp; omega
          go_wp2_with fail
          go_meet
          case rel => exact ⟨.inr ⟨h2s, rfl, rfl⟩⟩
      have p0c : wc.cell? ⟨q, 0, none⟩ = some (.int .i64 (stn : Int)) := by
        rcases hcut.out with ⟨_, l2, ag2, _, _, s8, _⟩ | ⟨_, _, e⟩
        · rw [← KST.out]; exact s8.c 0
        · rw [e]; exact p0
      go_upto_if 146 with fail
      go_cut [13] from 146 to 151 (fun o w7 => Kp (DownSt w6 w7 q (.slice (some ⟨g1, 0, none⟩) s.l.length c1) (.slice (some ⟨g2, 0, none⟩) s.l.length c2) (.slice (some ⟨g3, 0, none⟩) s.l.length c3) v6 (.slice (some ⟨bA, 0, none⟩) s.l.length s.l.length) s k c tick E fg o))
      case first =>
        have HCUT := hcut
        clear hcut
        rcases HCUT.out with ⟨h2s, hD⟩ | ⟨h2s, ho7, hw7⟩
        · have HD := Kp.mk hD
          clear hD HCUT
          subst h2s
          go_wp2_with fail
          go_meet
          case rel => exact HD
        · subst ho7
          subst hw7
          clear HCUT
          by_cases h3s : stn = 3
          · subst h3s
            go_wp2_with fail
            refine (down_any _ q _ _ _ _ _ _ fg (k + 1) (List.replicate s.l.length false) (some ⟨bA, 0, none⟩) s.l.length (by show Value.slice _ s.l.length _ = Value.slice _ (exL s k c).length _; rw [HLL.out]) hs6 m6 (by show _ = (exL s k c).length; rw [HLL.out]; simp) (fun g hg e => KR.out g e (by simpa [Value.ownBlock] using hg.symm)) (fun g hg e => KF.out g e (by simpa [Value.ownBlock] using hg.symm)) (by show (exL s k c).length ≤ _; rw [HLL.out]; exact hn) (by show k + 1 ≤ (exL s k c).length; rw [HLL.out]; omega)).mono ?_
            rintro e w8 ⟨v, l', st', rfl, o8, f8, s8, m8, pl, pa, c8⟩
            have hmt := exL_mt HKC.out (k + 1) (.inr ⟨by rw [KST.out]; rfl, rfl⟩)
            have hle : k + 1 ≤ (exL s k c).length := by rw [HLL.out]; omega
            have HD := Kp.mk (⟨l', st', by rw [← dA_of _ _ (k + 1) hle hmt]; exact o8, f8, s8, m8, stop_of _ (k + 1) hmt pl, ag_of _ (k + 1) hmt pa, c8⟩ : DownSt wc w8 q (.slice (some ⟨g1, 0, none⟩) s.l.length c1) (.slice (some ⟨g2, 0, none⟩) s.l.length c2) (.slice (some ⟨g3, 0, none⟩) s.l.length c3) v6 (.slice (some ⟨bA, 0, none⟩) s.l.length s.l.length) s k c tick E fg v)
            clear hmt o8 f8 s8 m8 pl pa c8 hle
            go_wp2_with fail
            go_meet
            case rel => exact HD
          · have hb3 : ((stn : Int) == 3) = false := by simp; omega
            have h1s : stn = 1 := by have := KS3.out; omega
            have hw : ∀ i, withF s.st k i = false := fun i => by rw [KST.out, h1s]; rfl
            have HD := Kp.mk (⟨exL s k c, List.replicate s.l.length false, by
                have : dA (exL s k c) (withF s.st k) 0 = [] := by
                  unfold dA
                  rw [List.filter_eq_nil_iff.2 (by intro x _; rw [hw]; simp)]; rfl
                rw [this]; exact Own.nil _ _ _, Fresh.nil _ _ _, hs6, m6, (PW.refl _).ext (fun i c _ => by unfold stopF; rw [hw]; simp), (PW.refl _).ext (fun i b _ => by unfold agF; split <;> (try split) <;> simp [hw]), Chg.refl _ _⟩ : DownSt wc wc q (.slice (some ⟨g1, 0, none⟩) s.l.length c1) (.slice (some ⟨g2, 0, none⟩) s.l.length c2) (.slice (some ⟨g3, 0, none⟩) s.l.length c3) v6 (.slice (some ⟨bA, 0, none⟩) s.l.length s.l.length) s k c tick E fg (.slice none 0 0))
            clear hw h1s
            go_wp2_with fail
            go_meet
            case rel => exact HD
      obtain ⟨l2, ag2, o8, f8, s8, m8, pl, pa, c8⟩ := hcut.out
      obtain ⟨w8, hw8⟩ : ∃ w8, w8 = wc := ⟨_, rfl⟩
      subst hw8
      clear hcut p0 p0c hs6 m6
      have hlag : ag2.length = s.l.length := by rw [pa.len]; simp
      have hkag : k < ag2.length := by omega
      have hl2 : l2.length = s.l.length := by rw [pl.len]; exact HLL.out
      have qa : w8.cell? ⟨bA, k, none⟩ = some (.bool ag2[k]) := by have := m8.elem k 0 hkag (by decide); simpa [eBool] using this
      have fa : w8.frozen? ⟨bA, k, none⟩ = false := m8.frozen _
      have m9 : Own (w8.setCell ⟨bA, k, none⟩ (.bool true)) 4 eBool (.slice (some ⟨bA, 0, none⟩) s.l.length s.l.length) (ag2.set k true) := by
        have := m8.set hlag.symm k 0 true (.bool true) hkag (by decide) rfl
        simpa [eBool] using this
      have s9 := s8.frame (chg_cell w8 bA k (.bool true)) KQ.out KL.out KR.out KF.out KE.out
      have o9 := o8.frame (chg_cell w8 bA k (.bool true)) (fun g hg e => by
        obtain ⟨cb, hcb⟩ := m8.blk
        exact o8.ne hcb (by decide) (by rw [← e]; exact hg))
      have c9 := (hc6.trans c8 (fun n hn h => by
        rcases h with h | h
        · exact .inr (.inl h)
        · have e9 : bA = n := by simpa [Value.ownBlock] using h
          have := KW.out
          omega)).set (p := ⟨bA, k, none⟩) (.inr KW.out) (.bool true)
      have f9 : Fresh w _ := f8.up hc6.size
      have hDl := dA_len (exL s k c) (withF s.st k) 0
      have KSL := Kp.mk (exS_len s k c)
      have KAG : Kp (∀ (i : Nat) (d : Ch), s.l[i]? = some d → (ag2.set k true).getD i false = if i = k then true else (d.runs && withF s.st k i)) := ⟨fun i d hd => ag3_get HKC.out pa i d hd⟩
      have KXA : Kp (∀ (i : Nat) (d : Ch), s.l[i]? = some d → (exA s k c).getD i false = if i = k then true else if d.runs && withF s.st k i then d.rs != 3 else false) := ⟨fun i d hd => exA_get HKC.out i d hd⟩
      have KL2 : Kp (∀ (j : Nat) (x d : Ch), s.l[j]? = some x → l2[j]? = some d → d.name = x.name ∧ d.rs = x.rs) := ⟨fun j x d hx hd => l2_kid HKC.out pl hx hd⟩
      obtain ⟨ag3, hag3⟩ : ∃ ag3, ag3 = ag2.set k true := ⟨_, rfl⟩
      have hlag3 : ag3.length = s.l.length := by rw [hag3]; simpa using hlag
      rw [← hag3] at m9 KAG
      obtain ⟨D, hD⟩ : ∃ D, D = dA (exL s k c) (withF s.st k) 0 := ⟨_, rfl⟩
      rw [← hD] at o9 hDl
      rw [HLL.out] at hDl
      have KD := Kp.mk hD
      have KPL := Kp.mk pl
      have KHL2 := Kp.mk hl2
      have KAL := Kp.mk hlag3
      have KM9 := Kp.mk m9
      have KS9 := Kp.mk s9
      have KO9 := Kp.mk o9
      have KC9 := Kp.mk c9
      have KF9 := Kp.mk f9
      have hlb := lt_of_block (m8.blk).choose_spec
      clear hD pl hl2 hlag3 m9 s9 o9 c9 f9 o8 f8 s8 m8 pa c8 hag3 hlag hc6
      go_wp2_with fail
      go_loopw [13, 14] (fun v i wr => ∃ (j : Nat) (l' : List Ch) (fg' : List Bool), j ≤ s.l.length ∧ i = .int .i64 j ∧ Kp (PW l2 l' (fun i d => if i < j then (if (exA s k c).getD i false then setR true d else d) else d)) ∧ Kp (Own wr 43 eAM v (D ++ upAk (exS s k c) (exA s k c) j)) ∧ Kp (Fresh w v) ∧
        Kp (IsRef wr q (.slice (some ⟨g1, 0, none⟩) s.l.length c1) (.slice (some ⟨g2, 0, none⟩) s.l.length c2) (.slice (some ⟨g3, 0, none⟩) s.l.length c3) v6 { s with la := tick, ends := E, l := l' } fg') ∧ Kp (Own wr 4 eBool (.slice (some ⟨bA, 0, none⟩) s.l.length s.l.length) ag3) ∧
        Kp (Chg (FRX q (.slice (some ⟨g2, 0, none⟩) s.l.length c2) (.slice (some ⟨g3, 0, none⟩) s.l.length c3) ev) w wr)) (fun _ i _ => s.l.length - (intOf i).toNat)
      case atStart => exact ⟨0, l2, fg, Nat.zero_le _, rfl, ⟨⟨rfl, fun i c h => by simpa using h⟩⟩, ⟨by simpa [upAk] using KO9.out⟩, KF9, KS9, KM9, KC9⟩
      case round =>
        clear qa fa KO9 KF9 KS9 KM9 KC9 hlb
        obtain ⟨j, l', fg', hj, rfl, hpw, hown, hfr, hsr, hmr, hcr⟩ := hrel
        have p3 : wr.cell? ⟨q, 3, none⟩ = some (.slice (some ⟨g1, 0, none⟩) s.l.length c1) := hsr.out.c 3
        by_cases hlt : j < s.l.length
        · have hlt2 : j < l2.length := by have := KHL2.out; omega
          have hlta : j < ag3.length := by have := KAL.out; omega
          have hlts : j < (exS s k c).length := by have := KSL.out; omega
          have hll' := Kp.mk (hpw.out.len.trans KHL2.out)
          have hx : s.l[j]? = some s.l[j] := List.getElem?_eq_getElem hlt
          have hd2 : l2[j]? = some l2[j] := List.getElem?_eq_getElem hlt2
          have hl' : l'[j]? = some l2[j] := by
            have := hpw.out.at_ j _ hd2
            rw [if_neg (by omega)] at this
            exact this
          obtain ⟨kn, kr⟩ := KL2.out j _ _ hx hd2
          have qb : wr.cell? ⟨bA, j, none⟩ = some (.bool ag3[j]) := by have := hmr.out.elem j 0 hlta (by decide); simpa [eBool] using this
          have hgd : ag3.getD j false = ag3[j] := by simp [hlta]
          have hb1 := KAG.out j _ hx
          rw [hgd] at hb1
          have hxa := KXA.out j _ hx
          have hup := upAk_step (exS s k c) (exA s k c) j hlts
          rw [exS_name HKC.out hx hlts] at hup
          have hul := upAk_len (exS s k c) (exA s k c) j
          rw [KSL.out] at hul
          have p4 : wr.cell? ⟨q, 4, none⟩ = some (.slice (some ⟨g2, 0, none⟩) s.l.length c2) := hsr.out.c 4
          have p5 : wr.cell? ⟨q, 5, none⟩ = some (.slice (some ⟨g3, 0, none⟩) s.l.length c3) := hsr.out.c 5
          obtain ⟨q0, q1⟩ := hsr.out.kidc j _ hl'
          rw [kn] at q0
          rw [kr] at q1
          have q2 := hsr.out.runc j _ hl'
          have f2 : wr.frozen? ⟨g2, j, none⟩ = false := hsr.out.r.frozen _
          obtain ⟨bf, q3⟩ := hsr.out.fgc j (by show j < l'.length; rw [hll'.out]; exact hlt)
          have f3 : wr.frozen? ⟨g3, j, none⟩ = false := hsr.out.f.frozen _
          have hW := Kp.mk (hsr.out.setRuns hll'.out.symm j l2[j] hl' true)
          have hWF := Kp.mk (hsr.out.setFg (by show s.l.length = l'.length; exact hll'.out.symm) j (by show j < l'.length; rw [hll'.out]; exact hlt) true)
          have hpwN := Kp.mk (hpw.out.set j hlt2 (setR true l2[j]))
          have hpg : q ≠ g2 := fun e => hsr.out.r.ne hsr.out.blk (by decide) (by rw [e]; rfl)
          have hg12 : g1 ≠ g2 := fun e => by obtain ⟨cg, hcg⟩ := hsr.out.r.blk; exact hsr.out.l.ne hcg (by decide) (by rw [e]; rfl)
          obtain ⟨x, hxx⟩ : ∃ x, x = s.l[j] := ⟨_, rfl⟩
          obtain ⟨b1, hbb⟩ : ∃ b, b = ag3[j] := ⟨_, rfl⟩
          obtain ⟨d2, hdd⟩ : ∃ d, d = l2[j] := ⟨_, rfl⟩
          rw [← hxx] at q0 q1 hb1 hxa hup
          rw [← hbb] at qb hb1
          rw [← hdd] at q2 hW hpwN hd2
          have HB1 := Kp.mk hb1
          have HXA := Kp.mk hxa
          have HUP := Kp.mk hup
          have HD2 := Kp.mk hd2
          clear hx hd2 hl' kn kr hgd hb1 hxa hup hxx hbb hdd
          have hDu : (D ++ upAk (exS s k c) (exA s k c) j).length ≤ 3000 := by rw [List.length_append]; omega
          have j0 : (0 : Int) ≤ (j : Int) := by omega
          have j1 : (j : Int) < (s.l.length : Int) := by omega
          have same : ∀ (b : Bool), (exA s k c).getD j false = b → Kp (PW l2 (if b then l'.set j (setR true d2) else l') (fun i d => if i < j + 1 then (if (exA s k c).getD i false then setR true d else d) else d)) := fun b hb => ⟨by
            cases b
            · refine hpw.out.ext fun i c hc => ?_
              by_cases e : i = j
              · subst e
                rw [if_neg (Nat.lt_irrefl _), if_pos (Nat.lt_succ_self _), hb]; rfl
              · by_cases e2 : i < j
                · rw [if_pos e2, if_pos (show i < j + 1 by omega)]
                · rw [if_neg e2, if_neg (show ¬ i < j + 1 by omega)]
            · refine hpwN.out.ext fun i c hc => ?_
              by_cases e : i = j
              · subst e
                rw [HD2.out] at hc
                cases hc
                rw [if_pos rfl, if_pos (Nat.lt_succ_self _), hb]; rfl
              · rw [if_neg e]
                by_cases e2 : i < j
                · rw [if_pos e2, if_pos (show i < j + 1 by omega)]
                · rw [if_neg e2, if_neg (show ¬ i < j + 1 by omega)]⟩
          have SAME := Kp.mk same
          clear same
          have hOW : Kp (Own (wr.setCell ⟨g2, j, none⟩ (.bool true)) 43 eAM u13 (D ++ upAk (exS s k c) (exA s k c) j)) := ⟨by
            obtain ⟨cur, hcur⟩ := hsr.out.r.blk
            exact hown.out.set_ne (hown.out.ne hcur (by decide)) _⟩
          have hOF : Kp (Own (wr.setCell ⟨g3, j, none⟩ (.bool true)) 43 eAM u13 (D ++ upAk (exS s k c) (exA s k c) j)) := ⟨by
            obtain ⟨cur, hcur⟩ := hsr.out.f.blk
            exact hown.out.set_ne (hown.out.ne hcur (by decide)) _⟩
          have hMW : Kp (Own (wr.setCell ⟨g2, j, none⟩ (.bool true)) 4 eBool (.slice (some ⟨bA, 0, none⟩) s.l.length s.l.length) ag3) := ⟨hmr.out.set_ne (fun e => KR.out g2 rfl (by simpa [Value.ownBlock] using e.symm)) _⟩
          have hMF : Kp (Own (wr.setCell ⟨g3, j, none⟩ (.bool true)) 4 eBool (.slice (some ⟨bA, 0, none⟩) s.l.length s.l.length) ag3) := ⟨hmr.out.set_ne (fun e => KF.out g3 rfl (by simpa [Value.ownBlock] using e.symm)) _⟩
          have hCW := Kp.mk (hcr.out.set (p := ⟨g2, j, none⟩) (.inl (.inr (.inl rfl))) (.bool true))
          have hCF := Kp.mk (hcr.out.set (p := ⟨g3, j, none⟩) (.inl (.inr (.inr (.inl rfl)))) (.bool true))
          cases b1
          · have hxf : Kp ((exA s k c).getD j false = false) := ⟨by
              rw [HXA.out]
              have := HB1.out
              by_cases e : j = k
              · rw [if_pos e] at this; cases this
              · rw [if_neg e] at this
                rw [if_neg e, ← this]; rfl⟩
            go_wp2_with fail
            go_roundw
            case rel => exact ⟨j + 1, l', fg', by omega, by go_num, SAME.out false hxf.out, ⟨by rw [HUP.out, hxf.out]; simpa using hown.out⟩, hfr, hsr, hmr, hcr⟩
            case measure => simp only [intOf]; omega
          · by_cases hjk : j = k
            · have hxf : Kp ((exA s k c).getD j false = true) := ⟨by rw [HXA.out, if_pos hjk]⟩
              have hjd : ((j : Int) != (k : Int)) = false := by simp [hjk]
              have hownW := hOW.out
              clear hjk
              go_wp2_with (at_builtin; refine app1_ev T28 ⟨true, x.name⟩ rfl _ _ rfl hownW rfl rfl rfl (by simp) rfl (by omega) (by omega) ?_; intro A' n' c' w4 a0 a1 a2 a3)
              go_roundw
              case rel => exact ⟨j + 1, l'.set j (setR true d2), fg', by omega, by go_num, SAME.out true hxf.out, ⟨by rw [HUP.out, hxf.out, ← List.append_assoc]; exact a1⟩, ⟨hfr.out.app hCW.out.size a3⟩, ⟨hW.out.keep hownW (by decide) a2⟩, ⟨hMW.out.frame a2 (fun g' hg' hF => by obtain ⟨cur, hcur⟩ := hMW.out.blk' hg'; exact hownW.ne hcur (by decide) hF)⟩, ⟨hCW.out.fresh hfr.out a2⟩⟩
              case measure => simp only [intOf]; omega
            · have hjd : ((j : Int) != (k : Int)) = true := by simp; omega
              by_cases hr3 : x.rs = 3
              · have hrd : (x.rs == 3) = true := by simpa using hr3
                have hxf : Kp ((exA s k c).getD j false = false) := ⟨by
                  rw [HXA.out, if_neg hjk]
                  split
                  · rw [hr3]; rfl
                  · rfl⟩
                clear hr3
                go_wp2_with fail
                go_roundw
                case rel => exact ⟨j + 1, l', fg'.set j true, by omega, by go_num, SAME.out false hxf.out, ⟨by rw [HUP.out, hxf.out]; simpa using hOF.out⟩, hfr, hWF, hMF, hCF⟩
                case measure => simp only [intOf]; omega
              · have hrd : (x.rs == 3) = false := by simpa using hr3
                have hxf : Kp ((exA s k c).getD j false = true) := ⟨by
                  rw [HXA.out, if_neg hjk]
                  have := HB1.out
                  rw [if_neg hjk] at this
                  rw [← this]; simpa using hr3⟩
                have hownW := hOW.out
                clear hr3
                go_wp2_with (at_builtin; refine app1_ev T28 ⟨true, x.name⟩ rfl _ _ rfl hownW rfl rfl rfl (by simp) rfl (by omega) (by omega) ?_; intro A' n' c' w4 a0 a1 a2 a3)
                go_roundw
                case rel => exact ⟨j + 1, l'.set j (setR true d2), fg', by omega, by go_num, SAME.out true hxf.out, ⟨by rw [HUP.out, hxf.out, ← List.append_assoc]; exact a1⟩, ⟨hfr.out.app hCW.out.size a3⟩, ⟨hW.out.keep hownW (by decide) a2⟩, ⟨hMW.out.frame a2 (fun g' hg' hF => by obtain ⟨cur, hcur⟩ := hMW.out.blk' hg'; exact hownW.ne hcur (by decide) hF)⟩, ⟨hCW.out.fresh hfr.out a2⟩⟩
                case measure => simp only [intOf]; omega
        · have hle : s.l.length ≤ j := by omega
          clear hlt
          have E2 : Kp (exitS s k c normal tick = ({ s with la := tick, ends := s.ends ++ [tick], l := upL (exS s k c) (exA s k c) }, dA (exL s k c) (withF s.st k) 0 ++ upA (exS s k c) (exA s k c))) := ⟨by
            unfold exitS
            rw [if_neg H3.out, if_neg H2.out, if_neg (Int.not_lt.2 HOV.out)]; rfl⟩
          go_wp2_with fail
          go_ret2
          have hp := hpw.out.ext (g := fun i d => if (exA s k c).getD i false then setR true d else d) (fun i c hc => by
            have := (List.getElem?_eq_some_iff.1 hc).1
            rw [if_pos (by have := KHL2.out; omega)])
          obtain ⟨f1, f2⟩ := fin_congr HKC.out normal tick H3.out H2.out (Int.not_lt.2 HOV.out) KPL.out hp
          refine ⟨k, HFR.out, .inr ⟨HE.out, k, c, _, v6, fg', rfl, HKC.out, rfl, ?_, hfr.out, ?_, HSAME.out, hcr.out⟩⟩
          · rw [E2.out]
            show Own _ 43 eAM _ (_ ++ _)
            rw [← KD.out, ← upAk_all _ _ j (by rw [KSL.out]; exact hle)]
            exact hown.out
          · refine hsr.out.congr ?_ f1 f2
            rw [E2.out]
            exact ⟨rfl, rfl, rfl, rfl, rfl, rfl, KEE.out.symm⟩

end Go.Proofs.Ytiedfckgkjcheaa
