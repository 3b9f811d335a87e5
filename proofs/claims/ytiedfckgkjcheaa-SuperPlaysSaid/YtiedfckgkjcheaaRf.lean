/- What texts and step of the package's law answer; their conditions stand in each statement. -/
import Derived.Test.YtiedfckgkjcheaaRe
import Derived.Test.YtiedfckgkjcheaaC
namespace Go.Proofs.Ytiedfckgkjcheaa
open Go.RowKit

theorem actsB_self (l : List AM) : actsB l l = true := by
  unfold actsB
  rw [Bool.and_eq_true]
  refine ⟨by simp, ?_⟩
  rw [List.all_eq_true]
  intro p hp
  obtain ⟨i, hi, rfl⟩ := List.mem_iff_getElem.1 hp
  simp [actE, beqS_self]
theorem src_none {α : Type} (w : World) (E : El α) : Src w E none 0 ([] : List α) := ⟨fun _ h => (by cases h), fun _ => ⟨rfl, rfl⟩⟩

theorem acts_same (w : World) (l : List AM) (A B : Option Addr) (na nb ca cb : Nat) (hna : na = l.length) (hnb : nb = l.length) (ha : Src w eAM A ca l) (hb : Src w eAM B cb l) (hn : l.length ≤ 1000000000) :
    Calls Try.prog 33 #[.slice A na ca, .slice B nb cb] w fun e w' => e = .returned (.bool true) ∧ Below w.heap.size w w' := by
  subst hna
  subst hnb
  refine (acts_eq w l l A B ca cb ha hb hn).mono ?_
  rintro e w' ⟨rfl, h⟩
  exact ⟨by rw [actsB_self], h⟩

set_option maxHeartbeats 1000000 in
theorem texts_eq (w : World) (l : List ByteArray) (A B : Option Addr) (ca cb : Nat) (ha : Src w eStr A ca l) (hb : Src w eStr B cb l) (hn : l.length ≤ 1000000000) :
    Calls Try.prog 20 #[.slice A l.length ca, .slice B l.length cb] w fun e w' => e = .returned (.bool true) ∧ Below w.heap.size w w' := by
  have hne : ((l.length : Int) != (l.length : Int)) = false := by simp
  go_enter Try.func20, Try.ntmps20
  go_wp2
  go_loopw [5] (fun i wr => ∃ k : Nat, k ≤ l.length ∧ i = .int .i64 k ∧ Below w.heap.size w wr) (fun i _ => l.length - (intOf i).toNat)
  case atStart => exact ⟨0, Nat.zero_le _, rfl, Below.refl _ _⟩
  case round =>
    obtain ⟨k, hk, rfl, hbw⟩ := hrel
    by_cases hlt : k < l.length
    · cases A with
      | none => have := (ha.none rfl).1; subst this; simp at hlt
      | some x =>
      cases B with
      | none => have := (hb.none rfl).1; subst this; simp at hlt
      | some y =>
        obtain ⟨g, o, rfl⟩ := ha.addr (by omega)
        obtain ⟨g2, o2, rfl⟩ := hb.addr (by omega)
        have H0 : wr.cell? ⟨g, o + k, none⟩ = some (.string l[k]) := by have := (ha.below hbw).elem k 0 hlt (by decide); simpa [eStr] using this
        have G0 : wr.cell? ⟨g2, o2 + k, none⟩ = some (.string l[k]) := by have := (hb.below hbw).elem k 0 hlt (by decide); simpa [eStr] using this
        obtain ⟨x, hx⟩ : ∃ x, x = l[k] := ⟨_, rfl⟩
        rw [← hx] at H0 G0
        clear hx
        have k0 : (0 : Int) ≤ (k : Int) := by omega
        have k1 : (k : Int) < (l.length : Int) := by omega
        have hq : (x.toList != x.toList) = false := by simp
        go_wp2_with fail
        go_quiet (fail)
        go_wp2
        go_roundw
        case rel => exact ⟨k + 1, by omega, by go_num, below_drewN hbw _⟩
        case measure => simp [intOf]; omega
    · have hle : l.length ≤ k := by omega
      clear hlt
      go_wp2
      go_ret
      exact ⟨rfl, hbw⟩

/-- A supervisor and the reference's, both made since w0. -/
structure Both (w0 w : World) (p q : Nat) (lv ev rl rr rf re : Value) (s t : SupM) (fg : List Bool) : Prop where
  sup : IsSup w p lv ev s
  ref : IsRef w q rl rr rf re t fg
  hp : w0.heap.size ≤ p
  hq : w0.heap.size ≤ q
  f1 : Fresh w0 lv
  f2 : Fresh w0 ev
  f3 : Fresh w0 rr
  f4 : Fresh w0 rf
  f5 : Fresh w0 re
  dis : ∀ g, ev.ownBlock = some g → re.ownBlock ≠ some g
  below : Below w0.heap.size w0 w
section
variable {w0 w w' : World} {p q : Nat} {lv ev ev' rl rr rf re re' : Value} {s s' t t' : SupM} {fg fg' : List Bool}
theorem Both.sup1 (h : Both w0 w p q lv ev rl rr rf re s t fg) (hc : Chg (FP p lv ev) w w') (hs : IsSup w' p lv ev' s') (he : Same w ev ev') : Both w0 w' p q lv ev' rl rr rf re s' t fg := by
  obtain ⟨cl, hl⟩ : ∃ c, w.heap[p]? = some (.cells c 62 (0, 0)) := ⟨_, h.sup.blk⟩
  have key : ∀ {α : Type} (T : TypeId) (E : El α) (v : Value) (l : List α), Own w T E v l → T ≠ 62 → T ≠ 65 → T ≠ 2 → ∀ g, v.ownBlock = some g → ¬ FP p lv ev g := by
    intro α T E v l ho h1 h2 h3 g hg hF
    rcases hF with rfl | hF | hF
    · exact ho.ne hl h1 hg
    · obtain ⟨cur, hcur⟩ := h.sup.l.blk' hF; exact ho.ne hcur h2 hg
    · obtain ⟨cur, hcur⟩ := h.sup.e.blk' hF; exact ho.ne hcur h3 hg
  have key2 : ∀ g, re.ownBlock = some g → ¬ FP p lv ev g := by
    intro g hg hF
    rcases hF with rfl | hF | hF
    · exact h.ref.e.ne hl (by decide) hg
    · obtain ⟨cur, hcur⟩ := h.sup.l.blk' hF; exact h.ref.e.ne hcur (by decide) hg
    · exact h.dis g hF hg
  have kq : ¬ FP p lv ev q := by
    have hb := h.ref.blk
    rintro (e | e | e)
    · rw [e, hl] at hb; cases hb
    · obtain ⟨cur, hcur⟩ := h.sup.l.blk' e; rw [hcur] at hb; cases hb
    · obtain ⟨cur, hcur⟩ := h.sup.e.blk' e; rw [hcur] at hb; cases hb
  have hfp : ∀ k, FP p lv ev k → w0.heap.size ≤ k := by
    rintro k (rfl | hk | hk)
    · exact h.hp
    · exact h.f1 k hk
    · exact h.f2 k hk
  refine ⟨hs, h.ref.frame hc kq (key 49 eCS _ _ h.ref.l (by decide) (by decide) (by decide)) (key 4 eBool _ _ h.ref.r (by decide) (by decide) (by decide)) (key 4 eBool _ _ h.ref.f (by decide) (by decide) (by decide)) key2,
    h.hp, h.hq, h.f1, h.f2.app h.below.size he, h.f3, h.f4, h.f5, ?_, chg_below h.below hc hfp h.below.size⟩
  intro g hg hr
  rcases he with he | ⟨g', he, hg'⟩
  · exact h.dis g (he ▸ hg) hr
  · rw [he] at hg
    cases hg
    have := h.ref.e.lt hr
    omega
theorem Own.refx {α : Type} {T : TypeId} {E : El α} {v : Value} {l : List α} (ho : Own w T E v l) (hr : IsRef w q rl rr rf re t fg) (hT : T ≠ 55 ∧ T ≠ 4 ∧ T ≠ 2) (hc : Chg (FRX q rr rf re) w w') : Own w' T E v l :=
  ho.frame hc fun g hg hF => by
    rcases hF with rfl | hF | hF | hF
    · exact ho.ne hr.blk hT.1 hg
    · obtain ⟨cur, hcur⟩ := hr.r.blk' hF; exact ho.ne hcur hT.2.1 hg
    · obtain ⟨cur, hcur⟩ := hr.f.blk' hF; exact ho.ne hcur hT.2.1 hg
    · obtain ⟨cur, hcur⟩ := hr.e.blk' hF; exact ho.ne hcur hT.2.2 hg
theorem Both.ref1 (h : Both w0 w p q lv ev rl rr rf re s t fg) (hc : Chg (FRX q rr rf re) w w') (hs : IsRef w' q rl rr rf re' t' fg') (he : Same w re re') : Both w0 w' p q lv ev rl rr rf re' s t' fg' := by
  have kp : ¬ FRX q rr rf re p := by
    obtain ⟨cl, hb⟩ : ∃ c, w.heap[p]? = some (.cells c 62 (0, 0)) := ⟨_, h.sup.blk⟩
    rintro (e | e | e | e)
    · rw [e, h.ref.blk] at hb; cases hb
    · obtain ⟨cur, hcur⟩ := h.ref.r.blk' e; rw [hcur] at hb; cases hb
    · obtain ⟨cur, hcur⟩ := h.ref.f.blk' e; rw [hcur] at hb; cases hb
    · obtain ⟨cur, hcur⟩ := h.ref.e.blk' e; rw [hcur] at hb; cases hb
  have ke : ∀ g, ev.ownBlock = some g → ¬ FRX q rr rf re g := by
    intro g hg hF
    rcases hF with rfl | hF | hF | hF
    · exact h.sup.e.ne h.ref.blk (by decide) hg
    · obtain ⟨cur, hcur⟩ := h.ref.r.blk' hF; exact h.sup.e.ne hcur (by decide) hg
    · obtain ⟨cur, hcur⟩ := h.ref.f.blk' hF; exact h.sup.e.ne hcur (by decide) hg
    · exact h.dis g hg hF
  have kl : ∀ g, lv.ownBlock = some g → ¬ FRX q rr rf re g := fun g hg hF => by
    rcases hF with rfl | hF | hF | hF
    · exact h.sup.l.ne h.ref.blk (by decide) hg
    · obtain ⟨cur, hcur⟩ := h.ref.r.blk' hF; exact h.sup.l.ne hcur (by decide) hg
    · obtain ⟨cur, hcur⟩ := h.ref.f.blk' hF; exact h.sup.l.ne hcur (by decide) hg
    · obtain ⟨cur, hcur⟩ := h.ref.e.blk' hF; exact h.sup.l.ne hcur (by decide) hg
  have hfp : ∀ k, FRX q rr rf re k → w0.heap.size ≤ k := by
    rintro k (rfl | hk | hk | hk)
    · exact h.hq
    · exact h.f3 k hk
    · exact h.f4 k hk
    · exact h.f5 k hk
  refine ⟨h.sup.frame hc kp kl ke, hs, h.hp, h.hq, h.f1, h.f2, h.f3, h.f4, h.f5.app h.below.size he, ?_, chg_below h.below hc hfp h.below.size⟩
  intro g hg hr
  rcases he with he | ⟨g', he, hg'⟩
  · exact h.dis g hg (he ▸ hr)
  · rw [he] at hr
    cases hr
    have := h.sup.e.lt hg
    omega
theorem Both.keep (h : Both w0 w p q lv ev rl rr rf re s t fg) (hb : Below w.heap.size w w') : Both w0 w' p q lv ev rl rr rf re s t fg :=
  ⟨h.sup.below hb, h.ref.below hb, h.hp, h.hq, h.f1, h.f2, h.f3, h.f4, h.f5, h.dis, bstep h.below h.below.size hb⟩
end

/-- What stands ahead of a call of the script. -/
structure InvP (st : Nat) (it pe : Int) (cs : List CS) (n : Nat) (s : SupM) : Prop where
  inv : Inv st it pe cs n s
  la : 0 ≤ s.la
def StepPost (w0 : World) (p q : Nat) (lv rl rr rf : Value) (st : Nat) (it pe : Int) (cs : List CS) (n : Nat) (e : Ending) (w' : World) : Prop :=
  e = .returned (.bool true) ∧ ∃ s' ev' re' fg', Both w0 w' p q lv ev' rl rr rf re' s' s' fg' ∧ InvP st it pe cs n s'

theorem fr_frx {w w' : World} {q : Nat} {rr : Value} (rf re : Value) (h : Chg (FR q rr) w w') : Chg (FRX q rr rf re) w w' := h.mono fun n _ h => by
  rcases h with h | h
  · exact .inl h
  · exact .inr (.inl h)

set_option maxRecDepth 100000 in
set_option maxHeartbeats 4000000 in
theorem step0 (w0 w : World) (p q : Nat) (lv ev rl rr rf re : Value) (s : SupM) (fg : List Bool) (st : Nat) (it pe : Int) (cs : List CS) (n : Nat) (nm : ByteArray) (normal : Bool) (tick : Int) (h : Both w0 w p q lv ev rl rr rf re s s fg) (hI : InvP st it pe cs n s)
    (hcs : cs.length ≤ 32) :
    Calls Try.prog 19 #[.pointer (some ⟨p, 0, none⟩), .pointer (some ⟨q, 0, none⟩), .agg #[.int .i64 0, .string nm, .bool normal, .int .i64 tick]] w (StepPost w0 p q lv rl rr rf st it pe cs (n + 1)) := by
  have hsl : s.l.length ≤ 1000 := by have := hI.inv.len; omega
  have h1 := h.keep ((Below.refl _ _).alloc (Nat.le_refl _) (.cells #[.int .i64 0, .string nm, .bool normal, .int .i64 tick] 39))
  have HH := Kp.mk h1
  have HI := Kp.mk hI
  have HSL := Kp.mk hsl
  clear h h1 hI hsl
  by_cases hno : s.sd = true ∨ s.ov = true
  · have HNO := Kp.mk hno
    clear hno
    go_enter Try.func19, Try.ntmps19
    go_wp2_with fail
    refine (start_no _ p lv ev s HH.out.sup HNO.out).mono ?_
    rintro e w1 ⟨rfl, rfl⟩
    go_wp2_with fail
    refine (rstart_no _ q rl rr rf re s fg HH.out.ref HNO.out).mono ?_
    rintro e w1 ⟨rfl, rfl⟩
    go_wp2_with fail
    refine (acts_same _ [] none none 0 0 0 0 rfl rfl (src_none _ _) (src_none _ _) (by simp)).mono ?_
    rintro e w1 ⟨rfl, hb1⟩
    go_wp2_with fail
    go_ret
    exact ⟨rfl, s, ev, re, fg, HH.out.keep hb1, HI.out.inv.up (by omega), HI.out.la⟩
  · have hd : s.sd = false := by cases h : s.sd; rfl; exact absurd (.inl h) hno
    have ho : s.ov = false := by cases h : s.ov; rfl; exact absurd (.inr h) hno
    have HD := Kp.mk hd
    have HO := Kp.mk ho
    clear hno hd ho
    go_enter Try.func19, Try.ntmps19
    go_wp2_with fail
    refine (start_yes _ p lv ev s HH.out.sup HSL.out HD.out HO.out).mono ?_
    rintro e w1 ⟨v1, rfl, o1, f1, s1, c1⟩
    have B1 := Kp.mk (HH.out.sup1 (fl_fp ev c1) s1 (.inl rfl))
    have O1 := Kp.mk o1
    clear o1 f1 s1 c1
    go_wp2_with fail
    refine (rstart_yes _ q rl rr rf re s fg B1.out.ref HSL.out HD.out HO.out).mono ?_
    rintro e w2 ⟨v2, rfl, o2, f2, s2, c2⟩
    have O2 := Kp.mk (O1.out.refx B1.out.ref (by decide) (fr_frx rf re c2))
    have B2 := Kp.mk (B1.out.ref1 (fr_frx rf re c2) s2 (.inl rfl))
    obtain ⟨A1, n1, hv1, _⟩ := O2.out.shape
    obtain ⟨A2, n2, hv2, _⟩ := o2.shape
    subst hv1
    subst hv2
    have O3 := Kp.mk o2
    have HLN : (s.l.map fun c => (⟨true, c.name⟩ : AM)).length ≤ 1000000000 := by have := HSL.out; simp; omega
    have HLN' := Kp.mk HLN
    clear o2 f2 s2 c2 O1 B1 HLN
    go_wp2_with fail
    refine (acts_same _ _ A1 A2 _ _ n1 n2 (by simp) (by simp) (O2.out.src rfl) (O3.out.src rfl) HLN'.out).mono ?_
    rintro e w3 ⟨rfl, hb3⟩
    go_wp2_with fail
    go_ret
    exact ⟨rfl, _, ev, re, fg, B2.out.keep hb3, ⟨HI.out.inv.st, HI.out.inv.it, HI.out.inv.pe, kids_map HI.out.inv.kids _, Nat.le_succ_of_le HI.out.inv.ends, HI.out.inv.pos⟩, HI.out.la⟩

set_option maxRecDepth 100000 in
set_option maxHeartbeats 4000000 in
theorem step1 (w0 w : World) (p q : Nat) (lv ev rl rr rf re : Value) (s : SupM) (fg : List Bool) (st : Nat) (it pe : Int) (cs : List CS) (n : Nat) (nm : ByteArray) (normal : Bool) (tick : Int) (h : Both w0 w p q lv ev rl rr rf re s s fg) (hI : InvP st it pe cs n s)
    (hcs : cs.length ≤ 32) :
    Calls Try.prog 19 #[.pointer (some ⟨p, 0, none⟩), .pointer (some ⟨q, 0, none⟩), .agg #[.int .i64 1, .string nm, .bool normal, .int .i64 tick]] w (StepPost w0 p q lv rl rr rf st it pe cs (n + 1)) := by
  have hsl : s.l.length ≤ 1000 := by have := hI.inv.len; omega
  have h1 := h.keep ((Below.refl _ _).alloc (Nat.le_refl _) (.cells #[.int .i64 1, .string nm, .bool normal, .int .i64 tick] 39))
  have HH := Kp.mk h1
  have HI := Kp.mk hI
  have HSL := Kp.mk hsl
  clear h h1 hI hsl
  by_cases hno : s.sd = false ∨ s.ov = true
  · have HNO := Kp.mk hno
    clear hno
    go_enter Try.func19, Try.ntmps19
    go_wp2_with fail
    refine (stop_no _ p lv ev s HH.out.sup HNO.out).mono ?_
    rintro e w1 ⟨rfl, rfl⟩
    go_wp2_with fail
    refine (rstop_no _ q rl rr rf re s fg HH.out.ref HNO.out).mono ?_
    rintro e w1 ⟨rfl, rfl⟩
    go_wp2_with fail
    refine (acts_same _ [] none none 0 0 0 0 rfl rfl (src_none _ _) (src_none _ _) (by simp)).mono ?_
    rintro e w1 ⟨rfl, hb1⟩
    go_wp2_with fail
    go_ret
    exact ⟨rfl, s, ev, re, fg, HH.out.keep hb1, HI.out.inv.up (by omega), HI.out.la⟩
  · have hd : s.sd = true := by cases h : s.sd; exact absurd (.inl h) hno; rfl
    have ho : s.ov = false := by cases h : s.ov; rfl; exact absurd (.inr h) hno
    have HD := Kp.mk hd
    have HO := Kp.mk ho
    clear hno hd ho
    go_enter Try.func19, Try.ntmps19
    go_wp2_with fail
    refine (stop_yes _ p lv ev s HH.out.sup HSL.out HD.out HO.out).mono ?_
    rintro e w1 ⟨v1, rfl, o1, f1, s1, c1⟩
    have B1 := Kp.mk (HH.out.sup1 (fl_fp ev c1) s1 (.inl rfl))
    have O1 := Kp.mk o1
    clear o1 f1 s1 c1
    go_wp2_with fail
    refine (rstop_yes _ q rl rr rf re s fg B1.out.ref HSL.out HD.out HO.out).mono ?_
    rintro e w2 ⟨v2, rfl, o2, f2, s2, c2⟩
    have O2 := Kp.mk (O1.out.refx B1.out.ref (by decide) (fr_frx rf re c2))
    have B2 := Kp.mk (B1.out.ref1 (fr_frx rf re c2) s2 (.inl rfl))
    obtain ⟨A1, n1, hv1, _⟩ := O2.out.shape
    obtain ⟨A2, n2, hv2, _⟩ := o2.shape
    subst hv1
    subst hv2
    have O3 := Kp.mk o2
    have HLN : (dA s.l (fun _ => true) 0).length ≤ 1000000000 := by have := HSL.out; have := dA_len s.l (fun _ => true) 0; omega
    have HLN' := Kp.mk HLN
    clear o2 f2 s2 c2 O1 B1 HLN
    go_wp2_with fail
    refine (acts_same _ _ A1 A2 _ _ n1 n2 rfl rfl (O2.out.src rfl) (O3.out.src rfl) HLN'.out).mono ?_
    rintro e w3 ⟨rfl, hb3⟩
    go_wp2_with fail
    go_ret
    exact ⟨rfl, _, ev, re, fg, B2.out.keep hb3, ⟨HI.out.inv.st, HI.out.inv.it, HI.out.inv.pe, kids_map HI.out.inv.kids _, Nat.le_succ_of_le HI.out.inv.ends, HI.out.inv.pos⟩, HI.out.la⟩

set_option maxRecDepth 100000 in
set_option maxHeartbeats 4000000 in
theorem step2 (w0 w : World) (p q : Nat) (lv ev rl rr rf re : Value) (s : SupM) (fg : List Bool) (st : Nat) (it pe : Int) (cs : List CS) (n : Nat) (kd : Int) (nm : ByteArray) (normal : Bool) (tick : Int) (h : Both w0 w p q lv ev rl rr rf re s s fg) (hI : InvP st it pe cs n s)
    (hst : st = 1 ∨ st = 2 ∨ st = 3) (hu : Uniq cs) (hcs : cs.length ≤ 32) (hn : n ≤ 9000000000000) (e0 : (kd == 0) = false) (e1 : (kd == 1) = false) :
    Calls Try.prog 19 #[.pointer (some ⟨p, 0, none⟩), .pointer (some ⟨q, 0, none⟩), .agg #[.int .i64 kd, .string nm, .bool normal, .int .i64 tick]] w (StepPost w0 p q lv rl rr rf st it pe cs (n + 1)) := by
  have hsl : s.l.length ≤ 1000 := by have := hI.inv.len; omega
  have hnd := names_nodup hu hI.inv.kids
  have h1 := h.keep ((Below.refl _ _).alloc (Nat.le_refl _) (.cells #[.int .i64 kd, .string nm, .bool normal, .int .i64 tick] 39))
  have HH := Kp.mk h1
  have HI := Kp.mk hI
  have HN := Kp.mk hnd
  have HSL := Kp.mk hsl
  have HST := Kp.mk hst
  clear h h1 hI hnd hsl hst
  have HX := Kp.mk (exit_any _ p lv ev s HH.out.sup nm normal tick HSL.out (by have := HI.out.inv.ends; omega) HI.out.inv.pos st HI.out.inv.st HST.out)
  have hbx := blk_new w (.cells #[.int .i64 kd, .string nm, .bool normal, .int .i64 tick] 39)
  have hbf : ¬ FP p lv ev w.heap.size := by
    rintro (e | e | e)
    · have hb := HH.out.sup.blk
      rw [← e, hbx] at hb; cases hb
    · obtain ⟨cur, hcur⟩ := HH.out.sup.l.blk' e; rw [hbx] at hcur; cases hcur
    · obtain ⟨cur, hcur⟩ := HH.out.sup.e.blk' e; rw [hbx] at hcur; cases hcur
  have HBX := Kp.mk hbx
  have HBF := Kp.mk hbf
  clear hbx hbf
  have hin3 : s.st = 1 ∨ s.st = 2 ∨ s.st = 3 := by have := HI.out.inv.st; have := HST.out; omega
  have HS3 := Kp.mk hin3
  clear hin3
  go_enter Try.func19, Try.ntmps19
  go_wp2_with fail
  refine HX.out.mono ?_
  rintro e w1 ⟨r, hr, ⟨hne, rfl, hb1⟩ | ⟨he, k, c, v1, ev', rfl, hk, rfl, o1, f1, s1, sm1, c1⟩⟩
  · have HR := Kp.mk hr
    have HNE := Kp.mk hne
    have B1 := Kp.mk (HH.out.keep hb1)
    have bx := (Chg.of_below hb1 NoF).at HBX.out (fun h => h)
    clear hr hne hb1 HX HH
    have x1 := blk_c bx 1
    have x2 := blk_c bx 2
    have x3 := blk_c bx 3
    clear bx
    go_wp2_with fail
    refine (rexit_any _ q rl rr rf re s fg B1.out.ref nm normal tick HSL.out (by have := HI.out.inv.ends; omega) HI.out.inv.pos HI.out.la HS3.out HN.out).mono ?_
    rintro e w2 ⟨r', hr', h2⟩
    have er : r' = r := hr'.eq.trans HR.out.eq.symm
    rw [er] at h2
    clear hr' er
    rcases h2 with ⟨_, rfl, hb2⟩ | ⟨he, _⟩
    · have B2 := Kp.mk (B1.out.keep hb2)
      clear hb2 B1
      go_wp2_with fail
      refine (acts_same _ [] none none 0 0 0 0 rfl rfl (src_none _ _) (src_none _ _) (by simp)).mono ?_
      rintro e w3 ⟨rfl, hb3⟩
      go_wp2_with fail
      go_ret
      exact ⟨by simp, s, ev, re, fg, B2.out.keep hb3, HI.out.inv.up (by omega), HI.out.la⟩
    · exact absurd he HNE.out
  · have HR := Kp.mk hr
    have HE := Kp.mk he
    have B1 := Kp.mk (HH.out.sup1 c1 s1 sm1)
    have O1 := Kp.mk o1
    have HK := Kp.mk hk
    have bx := c1.at HBX.out HBF.out
    clear hr he hk o1 f1 s1 sm1 c1 HX HH
    have x1 := blk_c bx 1
    have x2 := blk_c bx 2
    have x3 := blk_c bx 3
    clear bx
    go_wp2_with fail
    refine (rexit_any _ q rl rr rf re s fg B1.out.ref nm normal tick HSL.out (by have := HI.out.inv.ends; omega) HI.out.inv.pos HI.out.la HS3.out HN.out).mono ?_
    rintro e w2 ⟨r', hr', h2⟩
    have er : r' = (k : Int) := hr'.eq.trans HR.out.eq.symm
    rw [er] at h2
    clear hr' er
    rcases h2 with ⟨hne, _⟩ | ⟨_, k', c', v2, re', fg', hkk, hk', rfl, o2, f2, s2, sm2, c2⟩
    · exact absurd HE.out hne
    obtain rfl : k = k' := by omega
    rw [HK.out] at hk'
    cases hk'
    have O2 := Kp.mk (O1.out.refx B1.out.ref (by decide) c2)
    have B2 := Kp.mk (B1.out.ref1 c2 s2 sm2)
    obtain ⟨A1, n1, hv1, _⟩ := O2.out.shape
    obtain ⟨A2, n2, hv2, _⟩ := o2.shape
    subst hv1
    subst hv2
    have O3 := Kp.mk o2
    have HLN : (exitS s k c normal tick).2.length ≤ 1000000000 := by have := HSL.out; have := exit_acts_len s k c normal tick; omega
    have HLN' := Kp.mk HLN
    have ht : Kp (0 ≤ tick) := ⟨by
      have := HE.out
      unfold exitErr at this
      split at this
      · cases this
      · split at this
        · cases this
        · split at this
          · cases this
          · omega⟩
    clear o2 f2 s2 c2 sm2 O1 B1 HLN hkk
    go_wp2_with fail
    refine (acts_same _ _ A1 A2 _ _ n1 n2 rfl rfl (O2.out.src rfl) (O3.out.src rfl) HLN'.out).mono ?_
    rintro e w3 ⟨rfl, hb3⟩
    go_wp2_with fail
    go_ret
    exact ⟨rfl, _, ev', re', fg', B2.out.keep hb3, HI.out.inv.exit HK.out normal tick ht.out, by rw [(exit_rest s k c normal tick).2.2.2.2.1]; exact ht.out⟩

theorem step_any (w0 w : World) (p q : Nat) (lv ev rl rr rf re : Value) (s : SupM) (fg : List Bool) (st : Nat) (it pe : Int) (cs : List CS) (n : Nat) (o : OpM) (h : Both w0 w p q lv ev rl rr rf re s s fg) (hI : InvP st it pe cs n s)
    (hst : st = 1 ∨ st = 2 ∨ st = 3) (hu : Uniq cs) (hcs : cs.length ≤ 32) (hn : n ≤ 9000000000000) :
    Calls Try.prog 19 #[.pointer (some ⟨p, 0, none⟩), .pointer (some ⟨q, 0, none⟩), .agg #[.int .i64 o.kind, .string o.name, .bool o.normal, .int .i64 o.tick]] w (StepPost w0 p q lv rl rr rf st it pe cs (n + 1)) := by
  obtain ⟨kd, nm, normal, tick⟩ := o
  show Calls Try.prog 19 #[_, _, .agg #[.int .i64 kd, .string nm, .bool normal, .int .i64 tick]] w _
  by_cases e0 : kd = 0
  · subst e0
    exact step0 w0 w p q lv ev rl rr rf re s fg st it pe cs n nm normal tick h hI hcs
  by_cases e1 : kd = 1
  · subst e1
    exact step1 w0 w p q lv ev rl rr rf re s fg st it pe cs n nm normal tick h hI hcs
  exact step2 w0 w p q lv ev rl rr rf re s fg st it pe cs n kd nm normal tick h hI hst hu hcs hn (by simpa using e0) (by simpa using e1)

end Go.Proofs.Ytiedfckgkjcheaa
