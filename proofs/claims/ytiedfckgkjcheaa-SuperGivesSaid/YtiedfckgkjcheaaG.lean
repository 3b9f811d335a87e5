/- SuperGives: with the intensity n the end n + 1 within one tick is a giving up, and none ahead of it; ends a period apart never are. -/
import Derived.Test.YtiedfckgkjcheaaK
import Derived.Below
import Derived.Carry
namespace Go.Proofs.Ytiedfckgkjcheaa
open Go.RowKit

def ran3 : List Ch := [⟨⟨#[97]⟩, 1, true, false⟩, ⟨⟨#[98]⟩, 1, true, false⟩, ⟨⟨#[99]⟩, 1, true, false⟩]
theorem new3 (st it pe : Int) (h : badB st it pe = false) : newErr st it pe threeL = 0 := by
  unfold newErr
  rw [h]
  decide +kernel
theorem ran3_of (st it pe : Int) : (newM st it pe threeL).l.map (setR true) = ran3 := rfl
theorem first_b : firstR ran3 ⟨#[98]⟩ = 1 := by decide +kernel
theorem first_a : firstR ran3 ⟨#[97]⟩ = 0 := by decide +kernel
theorem err3 (s : SupM) (r tick : Int) (h1 : s.sd = true) (h2 : s.ov = false) (h3 : 0 ≤ r) (h4 : 0 ≤ tick) (h5 : tick ≤ 1152921504606846976) (h6 : s.la ≤ tick) : exitErr s r tick = 0 := by
  unfold exitErr
  rw [h1, h2, if_neg (by simp), if_neg (by omega), if_neg (by omega)]

theorem exitS_stay (s : SupM) (k : Nat) (c : Ch) (normal : Bool) (tick : Int) (st : Int) (hst : st = 1 ∨ st = 2 ∨ st = 3) (hs : s.st = st) (hl : s.l = ran3) (hk : k = 0 ∨ k = 1) (hc : ran3[k]? = some c) (h : ¬ s.it < countL (s.ends ++ [tick]) tick s.pe) :
    (exitS s k c normal tick).1 = { s with la := tick, ends := s.ends ++ [tick] } := by
  have e3 : c.rs = 1 := by rcases hk with rfl | rfl <;> cases hc <;> rfl
  unfold exitS
  rw [if_neg (by rw [e3]; decide), if_neg (by rw [e3]; simp), if_neg h]
  obtain ⟨st', it, pe, l, sd, ov, la, ends⟩ := s
  simp only at hs hl
  subst hs hl
  rcases hk with rfl | rfl <;> cases hc <;> rcases hst with rfl | rfl | rfl <;> rfl
theorem exitS_over (s : SupM) (k : Nat) (c : Ch) (normal : Bool) (tick : Int) (e3 : c.rs = 1) (h : s.it < countL (s.ends ++ [tick]) tick s.pe) :
    ∃ l, (exitS s k c normal tick).1 = { s with la := tick, l := l, ends := s.ends ++ [tick], ov := true } := by
  unfold exitS
  rw [if_neg (by rw [e3]; decide), if_neg (by rw [e3]; simp), if_pos h]
  exact ⟨_, rfl⟩

/-- The supervisor of the first loop. -/
structure GS (st n per tick : Int) (k : Nat) (s : SupM) : Prop where
  st : s.st = st
  it : s.it = n
  pe : s.pe = per
  sd : s.sd = true
  la : s.la ≤ tick
  ends : s.ends = List.replicate k tick
  ov : s.ov = decide (n < (k : Int))
  l : (k : Int) ≤ n → s.l = ran3
theorem count_rep (k : Nat) (tick per : Int) (h0 : 0 ≤ tick) (h1 : 1 ≤ per) : countL (List.replicate k tick) tick per = k := by
  unfold countL
  rw [List.filter_eq_self.2, List.length_replicate]
  intro t ht
  obtain rfl := (List.mem_replicate.1 ht).2
  simp [withinB]
  omega
theorem rep_snoc (k : Nat) (tick : Int) : List.replicate k tick ++ [tick] = List.replicate (k + 1) tick := by
  rw [List.replicate_succ']
theorem GS.exit {st n per tick : Int} {k : Nat} {s : SupM} (h : GS st n per tick k s) (hst : st = 1 ∨ st = 2 ∨ st = 3) (hk : (k : Int) ≤ n) (c : Ch) (hc : ran3[1]? = some c) (normal : Bool) (h0 : 0 ≤ tick) (h1 : 1 ≤ per) :
    GS st n per tick (k + 1) (exitS s 1 c normal tick).1 := by
  have e3 : c.rs = 1 := by cases hc; rfl
  have hcnt : countL (s.ends ++ [tick]) tick s.pe = k + 1 := by rw [h.ends, h.pe, rep_snoc, count_rep _ _ _ h0 h1]
  by_cases hn : n < (k : Int) + 1
  · obtain ⟨l, hl⟩ := exitS_over s 1 c normal tick e3 (by rw [hcnt, h.it]; push_cast; omega)
    rw [hl]
    exact ⟨h.st, h.it, h.pe, h.sd, Int.le_refl _, by show s.ends ++ [tick] = _; rw [h.ends, rep_snoc], by simp; omega, fun hx => by exfalso; push_cast at hx; omega⟩
  · rw [exitS_stay s 1 c normal tick st hst h.st (h.l hk) (.inr rfl) hc (by rw [hcnt, h.it]; push_cast; omega)]
    exact ⟨h.st, h.it, h.pe, h.sd, Int.le_refl _, by show s.ends ++ [tick] = _; rw [h.ends, rep_snoc], by show s.ov = _; rw [h.ov]; simp; omega, fun _ => h.l hk⟩

/-- The supervisor of the second loop. -/
def apartL (tick per : Int) (k : Nat) : List Int := (List.range k).map fun (j : Nat) => tick + (j : Int) * per
theorem apart_succ (tick per : Int) (k : Nat) : apartL tick per (k + 1) = apartL tick per k ++ [tick + (k : Int) * per] := by
  simp [apartL, List.range_succ]
theorem apart_pos (tick per : Int) (k : Nat) (h0 : 0 ≤ tick) (h1 : 1 ≤ per) : ∀ t ∈ apartL tick per k, 0 ≤ t := by
  intro t ht
  obtain ⟨j, _, rfl⟩ := List.mem_map.1 ht
  have : 0 ≤ (j : Int) * per := Int.mul_nonneg (by omega) (by omega)
  omega
theorem count_apart (tick per : Int) (k : Nat) (h0 : 0 ≤ tick) (h1 : 1 ≤ per) : countL (apartL tick per (k + 1)) (tick + (k : Int) * per) per = 1 := by
  have hp : 0 ≤ (k : Int) * per := Int.mul_nonneg (by omega) (by omega)
  rw [apart_succ, countL_snoc]
  have e1 : countL (apartL tick per k) (tick + (k : Int) * per) per = 0 := by
    unfold countL
    rw [List.length_eq_zero_iff, List.filter_eq_nil_iff]
    intro t ht
    obtain ⟨j, hj, rfl⟩ := List.mem_map.1 ht
    have hj' := List.mem_range.1 hj
    have : ((j : Int) + 1) * per ≤ (k : Int) * per := Int.mul_le_mul_of_nonneg_right (by omega) (by omega)
    rw [Int.add_mul, Int.one_mul] at this
    simp [withinB]
    omega
  rw [e1]
  simp [withinB]
  omega
structure GT (st per tick : Int) (k : Nat) (s : SupM) : Prop where
  st : s.st = st
  it : s.it = 1
  pe : s.pe = per
  sd : s.sd = true
  ov : s.ov = false
  la : s.la ≤ tick + (k : Int) * per
  ends : s.ends = apartL tick per k
  l : s.l = ran3
theorem GT.exit {st per tick : Int} {k : Nat} {s : SupM} (h : GT st per tick k s) (hst : st = 1 ∨ st = 2 ∨ st = 3) (c : Ch) (hc : ran3[0]? = some c) (h0 : 0 ≤ tick) (h1 : 1 ≤ per) :
    GT st per tick (k + 1) (exitS s 0 c false (tick + (k : Int) * per)).1 := by
  have hcnt : countL (s.ends ++ [tick + (k : Int) * per]) (tick + (k : Int) * per) s.pe = 1 := by rw [h.ends, h.pe, ← apart_succ, count_apart _ _ _ h0 h1]
  rw [exitS_stay s 0 c false _ st hst h.st h.l (.inl rfl) hc (by rw [hcnt, h.it]; decide)]
  refine ⟨h.st, h.it, h.pe, h.sd, h.ov, ?_, ?_, h.l⟩
  · show tick + (k : Int) * per ≤ tick + ((k + 1 : Nat) : Int) * per
    rw [Int.natCast_succ, Int.add_mul, Int.one_mul]; omega
  · show s.ends ++ _ = _
    rw [h.ends, apart_succ]

/-- A second supervisor is not touched by what is done to the first. -/
theorem apart_sup {w w' : World} {p q : Nat} {lv ev lw : Value} {s t : SupM} (hs : IsSup w p lv ev s) (ht : IsSup w q lw (.slice none 0 0) t) (hpq : p ≠ q) (hll : ∀ g, lw.ownBlock = some g → lv.ownBlock ≠ some g) (hc : Chg (FP p lv ev) w w') :
    IsSup w' q lw (.slice none 0 0) t := by
  refine ht.frame hc ?_ ?_ (fun g hg => by cases hg)
  · rintro (h | h | h)
    · exact hpq h.symm
    · exact hs.l.ne ht.blk (by decide) h
    · exact hs.e.ne ht.blk (by decide) h
  · rintro g hg (rfl | h | h)
    · exact ht.l.ne hs.blk (by decide) hg
    · exact hll g hg h
    · obtain ⟨cur, hcur⟩ := ht.l.blk' hg
      exact hs.e.ne hcur (by decide) h

end Go.Proofs.Ytiedfckgkjcheaa
