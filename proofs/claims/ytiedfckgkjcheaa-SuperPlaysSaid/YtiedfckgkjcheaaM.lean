/- The kinds of elements and the supervisor in memory; acts answers its list, for lists of at most 10^9 elements. -/
import Derived.Test.YtiedfckgkjcheaaProg
import Derived.Test.YtiedfckgkjcheaaLib
/- The kinds of elements of package super, and the state of a supervisor in memory. -/
namespace Go.Proofs.Ytiedfckgkjcheaa
open Go.RowKit

structure Ch where
  name : ByteArray
  rs : Int
  runs : Bool
  gone : Bool
structure CS where
  name : ByteArray
  rs : Int
structure AM where
  start : Bool
  name : ByteArray
def eCh : El Ch := ⟨4, fun c => [.string c.name, .int .i64 c.rs, .bool c.runs, .bool c.gone], fun _ => rfl, fun _ u h => by simp at h; rcases h with rfl | rfl | rfl | rfl <;> rfl, by decide⟩
def eCS : El CS := ⟨2, fun c => [.string c.name, .int .i64 c.rs], fun _ => rfl, fun _ u h => by simp at h; rcases h with rfl | rfl <;> rfl, by decide⟩
def eAM : El AM := ⟨2, fun c => [.bool c.start, .string c.name], fun _ => rfl, fun _ u h => by simp at h; rcases h with rfl | rfl <;> rfl, by decide⟩

theorem T28 : SlT Try.prog 28 43 eAM 24 := SlT.mk' (k := 2) (z := .agg #[.bool false, .string ⟨#[]⟩]) Try.underlying28 (by kernel_rfl) rfl rfl
theorem T36 : SlT Try.prog 36 9 eStr 16 := SlT.mk' (k := 1) (z := .string ⟨#[]⟩) Try.underlying36 (by kernel_rfl) rfl rfl
theorem T53 : SlT Try.prog 53 2 eI64 8 := SlT.mk' (k := 1) (z := .int .i64 0) Try.underlying53 (by kernel_rfl) rfl rfl
theorem T52 : SlT Try.prog 52 4 eBool 1 := SlT.mk' (k := 1) (z := .bool false) Try.underlying52 (by kernel_rfl) rfl rfl
theorem T60 : SlT Try.prog 60 65 eCh 32 := SlT.mk' (k := 4) (z := .agg #[.string ⟨#[]⟩, .int .i64 0, .bool false, .bool false]) Try.underlying60 (by kernel_rfl) rfl rfl
theorem T26 : SlT Try.prog 26 49 eCS 24 := SlT.mk' (k := 2) (z := .agg #[.string ⟨#[]⟩, .int .i64 0]) Try.underlying26 (by kernel_rfl) rfl rfl

structure SupM where
  st : Int
  it : Int
  pe : Int
  l : List Ch
  sd : Bool
  ov : Bool
  la : Int
  ends : List Int
def SupC (s : SupM) (lv ev : Value) : Array Value := #[.int .i64 s.st, .int .i64 s.it, .int .i64 s.pe, lv, .bool s.sd, .bool s.ov, .int .i64 s.la, ev]
structure IsSup (w : World) (p : Nat) (lv ev : Value) (s : SupM) : Prop where
  blk : w.heap[p]? = some (.cells (SupC s lv ev) 62 (0, 0))
  l : Own w 65 eCh lv s.l
  e : Own w 2 eI64 ev s.ends
theorem IsSup.frame {w w' : World} {p : Nat} {lv ev : Value} {s : SupM} (h : IsSup w p lv ev s) {F : Nat → Prop} (hc : Chg F w w') (hp : ¬ F p) (hl : ∀ g, lv.ownBlock = some g → ¬ F g) (he : ∀ g, ev.ownBlock = some g → ¬ F g) : IsSup w' p lv ev s :=
  ⟨hc.at h.blk hp, h.l.frame hc hl, h.e.frame hc he⟩
theorem IsSup.below {w w' : World} {p : Nat} {lv ev : Value} {s : SupM} (h : IsSup w p lv ev s) (hc : Below w.heap.size w w') : IsSup w' p lv ev s :=
  h.frame (Chg.of_below hc NoF) (fun h => h) (fun _ _ h => h) (fun _ _ h => h)
theorem IsSup.lne {w : World} {p : Nat} {lv ev : Value} {s : SupM} (h : IsSup w p lv ev s) : lv.ownBlock ≠ some p := h.l.ne h.blk (by decide)
theorem IsSup.ene {w : World} {p : Nat} {lv ev : Value} {s : SupM} (h : IsSup w p lv ev s) : ev.ownBlock ≠ some p := h.e.ne h.blk (by decide)
theorem IsSup.le {w : World} {p : Nat} {lv ev : Value} {s : SupM} (h : IsSup w p lv ev s) {g : Nat} (hg : ev.ownBlock = some g) : lv.ownBlock ≠ some g := by
  obtain ⟨cur, hc⟩ := h.e.blk' hg
  exact h.l.ne hc (by decide)
theorem IsSup.setL {w : World} {p : Nat} {lv ev lv' : Value} {s : SupM} {l' : List Ch} (hb : w.heap[p]? = some (.cells (SupC s lv ev) 62 (0, 0))) (hl : Own w 65 eCh lv' l') (he : Own w 2 eI64 ev s.ends) :
    IsSup (w.setCell ⟨p, 3, none⟩ lv') p lv' ev { s with l := l' } := by
  refine ⟨?_, hl.set_ne (hl.ne hb (by decide)) _, he.set_ne (he.ne hb (by decide)) _⟩
  rw [blk_set hb]
  rfl
/-- What a supervisor's calls may write. -/
def FP (p : Nat) (lv ev : Value) : Nat → Prop := fun k => k = p ∨ lv.ownBlock = some k ∨ ev.ownBlock = some k

/-! ### acts -/
set_option maxHeartbeats 400000 in
theorem acts_any (w : World) (b : Bool) (A : Option Addr) (c : Nat) (ns : List ByteArray) (hs : Src w eStr A c ns) (hn : ns.length ≤ 1000000000) :
    Calls Try.prog 27 #[.bool b, .slice A ns.length c] w fun e w' => ∃ v, e = .returned v ∧ Own w' 43 eAM v (ns.map (AM.mk b)) ∧ Fresh w v ∧ Below w.heap.size w w' := by
  go_enter Try.func27, Try.ntmps27
  go_wp2
  go_loopw [5, 10] (fun v i wr => ∃ k : Nat, k ≤ ns.length ∧ i = .int .i64 k ∧ Own wr 43 eAM v ((ns.take k).map (AM.mk b)) ∧ Fresh w v ∧ Below w.heap.size w wr) (fun _ i _ => ns.length - (intOf i).toNat)
  case atStart => exact ⟨0, Nat.zero_le _, rfl, Own.nil _ _ _, Fresh.nil _ _ _, Below.refl _ _⟩
  case round =>
    obtain ⟨k, hk, rfl, hown, hfr, hb⟩ := hrel
    by_cases hlt : k < ns.length
    · cases A with
      | none => have := (hs.none rfl).1; subst this; simp at hlt
      | some ad =>
        have hcell : wr.cell? (ad.add k) = some (.string ns[k]) := by
          have := (hs.below hb).at k 0 hlt (by decide)
          simpa [eStr] using this
        have ht : ns.take (k+1) = ns.take k ++ [ns[k]] := List.take_succ_eq_append_getElem hlt
        have hlk : ((ns.take k).map (AM.mk b)).length ≤ k := by simp; omega
        go_wp2_with (at_builtin; refine app1_ev T28 ⟨b, ns[k]⟩ rfl _ _ rfl hown rfl rfl rfl (by simp) rfl (by omega) (by omega) ?_; intro A' n' c' w1 h0 h1 h2 h3)
        go_roundw
        case rel => exact ⟨k + 1, by omega, by go_num, by rw [ht, List.map_append]; exact h1, hfr.app hb.size h3, chg_below hb h2 hfr hb.size⟩
        case measure => simp [intOf]; omega
    · have hle : ns.length ≤ k := by omega
      clear hlt
      go_wp2
      go_ret
      exact ⟨_, rfl, by rwa [List.take_of_length_le hle] at hown, hfr, hb⟩

end Go.Proofs.Ytiedfckgkjcheaa
