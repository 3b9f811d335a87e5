/- What known answers: true; no condition. -/
import Derived.Test.YtiedfckgkjcheaaT
import Derived.Test.YtiedfckgkjcheaaO
import Derived.Laws.StructEq
/- What every statement of the package calls at its end: known, which runs fixed calls. -/
namespace Go.Proofs.Ytiedfckgkjcheaa
open Go.RowKit

def threeL : List CS := [⟨⟨#[97]⟩, 1⟩, ⟨⟨#[98]⟩, 1⟩, ⟨⟨#[99]⟩, 1⟩]
set_option maxHeartbeats 400000 in
theorem three_any (w : World) : Calls Try.prog 9 #[] w fun e w' => e = .returned (.slice (some ⟨w.heap.size, 0, none⟩) 3 3) ∧ w' = w.alloc (.cells #[.string ⟨#[97]⟩, .int .i64 1, .string ⟨#[98]⟩, .int .i64 1, .string ⟨#[99]⟩, .int .i64 1] 49) := by
  go_enter Try.func9, Try.ntmps9
  go_wp2
  go_ret
  exact ⟨rfl, rfl⟩

def actE (x y : AM) : Bool := (x.start == y.start) && beqS x.name y.name
def actsB (la lb : List AM) : Bool := (la.length == lb.length) && (la.zip lb).all fun p => actE p.1 p.2
set_option maxHeartbeats 1000000 in
theorem acts_eq (w : World) (la lb : List AM) (A B : Option Addr) (ca cb : Nat) (ha : Src w eAM A ca la) (hb : Src w eAM B cb lb) (hn : la.length ≤ 1000000000) :
    Calls Try.prog 33 #[.slice A la.length ca, .slice B lb.length cb] w fun e w' => e = .returned (.bool (actsB la lb)) ∧ Below w.heap.size w w' := by
  by_cases hl : la.length = lb.length
  · go_enter Try.func33, Try.ntmps33
    go_wp2
    go_loopw [5] (fun i wr => ∃ k : Nat, k ≤ la.length ∧ i = .int .i64 k ∧ Kp (actsB la lb = ((la.drop k).zip (lb.drop k)).all fun p => actE p.1 p.2) ∧ Below w.heap.size w wr) (fun i _ => la.length - (intOf i).toNat)
    case atStart => exact ⟨0, Nat.zero_le _, rfl, ⟨by simp [actsB, hl]⟩, Below.refl _ _⟩
    case round =>
      obtain ⟨k, hk, rfl, hak, hbw⟩ := hrel
      by_cases hlt : k < la.length
      · have hlt2 : k < lb.length := by omega
        cases A with
        | none => have := (ha.none rfl).1; subst this; simp at hlt
        | some x =>
        cases B with
        | none => have := (hb.none rfl).1; subst this; simp at hlt2
        | some y =>
          obtain ⟨g, o, rfl⟩ := ha.addr (by omega)
          obtain ⟨g2, o2, rfl⟩ := hb.addr (by omega)
          have H0 : wr.cell? ⟨g, o + k * 2, none⟩ = some (.bool la[k].start) := (ha.below hbw).elem k 0 hlt (by decide)
          have H1 : wr.cell? ⟨g, o + k * 2 + 1, none⟩ = some (.string la[k].name) := (ha.below hbw).elem k 1 hlt (by decide)
          have G0 : wr.cell? ⟨g2, o2 + k * 2, none⟩ = some (.bool lb[k].start) := (hb.below hbw).elem k 0 hlt2 (by decide)
          have G1 : wr.cell? ⟨g2, o2 + k * 2 + 1, none⟩ = some (.string lb[k].name) := (hb.below hbw).elem k 1 hlt2 (by decide)
          have ht : Kp (((la.drop k).zip (lb.drop k)).all (fun p => actE p.1 p.2) = (actE la[k] lb[k] && ((la.drop (k+1)).zip (lb.drop (k+1))).all fun p => actE p.1 p.2)) := ⟨by
            rw [List.drop_eq_getElem_cons hlt, List.drop_eq_getElem_cons hlt2]; rfl⟩
          obtain ⟨x, hx⟩ : ∃ x, x = la[k] := ⟨_, rfl⟩
          obtain ⟨y, hy⟩ : ∃ y, y = lb[k] := ⟨_, rfl⟩
          rw [← hx] at H0 H1 ht
          rw [← hy] at G0 G1 ht
          clear hx hy
          by_cases e1 : x.start = y.start
          · by_cases e2 : x.name.toList = y.name.toList
            · have e3 : Kp (actE x y = true) := ⟨by simp [actE, beqS, e1, e2]⟩
              go_wp2
              go_region
              go_wp2
              go_roundw
              case rel => exact ⟨k + 1, by omega, by go_num, ⟨by rw [hak.out, ht.out, e3.out]; rfl⟩, hbw.drew⟩
              case measure => simp [intOf]; omega
            · have e3 : Kp (actE x y = false) := ⟨by simp [actE, beqS, e2]⟩
              go_wp2
              go_region
              go_wp2
              go_ret
              exact ⟨by rw [hak.out, ht.out, e3.out]; rfl, hbw.drew⟩
          · have e3 : Kp (actE x y = false) := ⟨by simp [actE, e1]⟩
            go_wp2
            go_region
            go_wp2
            go_ret
            exact ⟨by rw [hak.out, ht.out, e3.out]; rfl, hbw.drew⟩
      · have hle : la.length ≤ k := by omega
        clear hlt
        go_wp2
        go_ret
        exact ⟨by rw [hak.out, List.drop_eq_nil_of_le hle]; rfl, hbw⟩
  · have e1 : actsB la lb = false := by simp [actsB, hl]
    rw [e1]
    have hd : ((la.length : Int) == (lb.length : Int)) = false := by simp; omega
    go_enter Try.func33, Try.ntmps33
    go_wp2
    go_ret
    exact ⟨rfl, Below.refl _ _⟩


theorem src_lit {α : Type} (w : World) (E : El α) (T : TypeId) (cs : Array Value) (l : List α) (hcs : cs.toList = E.flat l) {bn : Nat} (hb : bn = w.heap.size) (c : Nat) : Src (w.alloc (.cells cs T)) E (some ⟨bn, 0, none⟩) c l := by
  subst hb
  refine ⟨fun ad ha j u hu => ?_, fun h => by cases h⟩
  cases ha
  rw [Addr.add_lit, Nat.zero_add, blk_c (blk_new w _)]
  rw [← hcs] at hu
  simpa using hu

/-- A supervisor that was made since w0. -/
structure Lives (w0 w : World) (p : Nat) (lv ev : Value) (s : SupM) : Prop where
  sup : IsSup w p lv ev s
  hp : w0.heap.size ≤ p
  hl : Fresh w0 lv
  he : Fresh w0 ev
  below : Below w0.heap.size w0 w
theorem Lives.fp {w0 w : World} {p : Nat} {lv ev : Value} {s : SupM} (h : Lives w0 w p lv ev s) : ∀ k, FP p lv ev k → w0.heap.size ≤ k := by
  rintro k (rfl | hk | hk)
  · exact h.hp
  · exact h.hl k hk
  · exact h.he k hk
theorem Lives.step {w0 w w' : World} {p : Nat} {lv ev ev' : Value} {s s' : SupM} (h : Lives w0 w p lv ev s) (hc : Chg (FP p lv ev) w w') (hs : IsSup w' p lv ev' s') (he : Same w ev ev') : Lives w0 w' p lv ev' s' :=
  ⟨hs, h.hp, h.hl, h.he.app h.below.size he, chg_below h.below hc h.fp h.below.size⟩
theorem Lives.keep {w0 w w' : World} {p : Nat} {lv ev : Value} {s : SupM} (h : Lives w0 w p lv ev s) (hb : Below w.heap.size w w') : Lives w0 w' p lv ev s :=
  ⟨h.sup.below hb, h.hp, h.hl, h.he, bstep h.below h.below.size hb⟩
theorem fl_fp {w w' : World} {p : Nat} {lv : Value} (ev : Value) (h : Chg (FL p lv) w w') : Chg (FP p lv ev) w w' := h.mono fun k _ hk => by
  rcases hk with hk | hk
  · exact .inl hk
  · exact .inr (.inl hk)

def firstR (l : List Ch) (nm : ByteArray) : Int := match l.findIdx? (fun c => beqS c.name nm && c.runs) with | some k => k | none => -1
theorem FirstRun.eq {l : List Ch} {nm : ByteArray} {r : Int} (h : FirstRun l nm r) : r = firstR l nm := by
  unfold firstR
  rcases h with ⟨k, hk, rfl, ⟨c, hc, hy⟩, hno⟩ | ⟨rfl, hno⟩
  · have : l.findIdx? (fun c => beqS c.name nm && c.runs) = some k := by
      rw [List.findIdx?_eq_some_iff_getElem]
      refine ⟨hk, ?_, fun j hj => ?_⟩
      · rw [List.getElem?_eq_getElem hk] at hc; cases hc; exact hy
      · rw [hno j _ hj (List.getElem?_eq_getElem (by omega))]; simp
    rw [this]
  · have : l.findIdx? (fun c => beqS c.name nm && c.runs) = none := by
      rw [List.findIdx?_eq_none_iff]; exact hno
    rw [this]

def sup3 : SupM := newM 3 5 10 threeL
def sup3' : SupM := { sup3 with sd := true, l := sup3.l.map (setR true) }
def wantL : List AM := [⟨false, ⟨#[99]⟩⟩, ⟨true, ⟨#[98]⟩⟩, ⟨true, ⟨#[99]⟩⟩]
theorem k_new : newErr 3 5 10 threeL = 0 := by decide +kernel
theorem k_first : firstR sup3'.l ⟨#[98]⟩ = 1 := by decide +kernel
theorem k_acts : actsB (exitS sup3' 1 ⟨⟨#[98]⟩, 1, true, false⟩ false 3).2 wantL = true := by decide +kernel


theorem k_at : sup3'.l[1]? = some ⟨⟨#[98]⟩, 1, true, false⟩ := rfl
theorem k_st : sup3'.st = (3 : Nat) := rfl
theorem k_err : exitErr sup3' 1 3 = 0 := by decide +kernel
theorem k_len : (exitS sup3' 1 ⟨⟨#[98]⟩, 1, true, false⟩ false 3).2.length = 3 := by decide +kernel

set_option maxHeartbeats 1000000 in
theorem known_any (w : World) : Calls Try.prog 14 #[] w fun e w' => e = .returned (.bool true) ∧ Below w.heap.size w w' := by
  go_enter Try.func14, Try.ntmps14
  go_wp2_with fail
  refine (three_any _).mono ?_
  rintro e w1 ⟨rfl, rfl⟩
  go_wp2_with fail
  refine (new_any _ 3 5 10 threeL _ 3 (src_lit w eCS 49 _ threeL rfl rfl 3) (by decide)).mono ?_
  rintro e w2 ⟨hb2, ⟨hne, _⟩ | ⟨_, p, lv, hp, hfr, rfl, hs2⟩⟩
  · exact absurd k_new hne
  have hb : Below w.heap.size w w2 := bstep ((Below.refl _ _).alloc (Nat.le_refl _) _) (by simp) hb2
  have hL : Lives w w2 p lv (.slice none 0 0) sup3 := ⟨hs2, by simp at hp; omega, hfr.up (by simp), Fresh.nil _ _ _, hb⟩
  clear hb hp hfr hb2 hs2
  have HL := Kp.mk hL
  clear hL
  go_wp2_with fail
  refine (start_yes _ p lv _ sup3 HL.out.sup (by decide) rfl rfl).mono ?_
  rintro e w3 ⟨v3, rfl, ho3, hf3, hs3, hc3⟩
  have HL3 := Kp.mk (HL.out.step (fl_fp _ hc3) hs3 (.inl rfl))
  obtain ⟨A3, c3, hv3⟩ : ∃ A3 c3, v3 = .slice A3 3 c3 := by obtain ⟨A, c, h, _⟩ := ho3.shape; exact ⟨A, c, h⟩
  subst hv3
  clear hs3 hc3 ho3 hf3
  go_wp2_with fail
  refine (exit_any _ p lv _ sup3' HL3.out.sup ⟨#[98]⟩ false 3 (by decide) (by decide) (by intro t ht; cases ht) 3 k_st (.inr (.inr rfl))).mono ?_
  rintro e w4 ⟨r, hr, ⟨hne, _⟩ | ⟨_, k, c, v4, ev4, hk, hc, rfl, ho4, hf4, hs4, hsm, hc4⟩⟩
  · rw [hr.eq, k_first, k_err] at hne
    exact absurd rfl hne
  rw [hr.eq, k_first] at hk
  obtain rfl : k = 1 := by omega
  rw [k_at] at hc
  cases hc
  have HL4 := Kp.mk (HL3.out.step hc4 hs4 hsm)
  obtain ⟨A4, c4, hv4, _⟩ := ho4.shape
  subst hv4
  have HO4 := Kp.mk ho4
  clear hr hs4 hsm hc4 hf4 hk ho4
  rw [k_len]
  go_wp2_with fail
  refine (acts_eq _ (exitS sup3' 1 ⟨⟨#[98]⟩, 1, true, false⟩ false 3).2 wantL A4 _ c4 3 ((HO4.out.src rfl).below ((Below.refl _ _).alloc (Nat.le_refl _) _)) (src_lit w4 eAM 43 _ wantL rfl rfl 3) (by rw [k_len]; decide)).mono ?_
  rintro e w5 ⟨rfl, hb5⟩
  rw [k_acts]
  go_wp2
  go_ret
  exact ⟨rfl, bstep (HL4.out.below.alloc HL4.out.below.size _) (by have := HL4.out.below.size; simp; omega) hb5⟩

end Go.Proofs.Ytiedfckgkjcheaa
