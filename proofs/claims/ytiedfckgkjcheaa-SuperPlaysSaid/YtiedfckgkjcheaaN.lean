/- What find, index and right of package super answer; for lists of at most 10^9 elements. -/
import Derived.Test.YtiedfckgkjcheaaM
namespace Go.Proofs.Ytiedfckgkjcheaa
open Go.RowKit

def beqS (a b : ByteArray) : Bool := a.toList == b.toList

set_option maxHeartbeats 400000 in
theorem find1_any (w : World) (B : Nat) (nm : ByteArray) (c : Ch) (hB : w.heap[B]? = some (.cells #[.string nm] 9 (0, 0))) :
    Calls Try.prog 38 #[.agg #[.string c.name, .int .i64 c.rs, .bool c.runs, .bool c.gone], .pointer (some ⟨B, 0, none⟩)] w fun e w' => e = .returned (.bool (beqS c.name nm)) ∧ Below w.heap.size w w' := by
  have hB0 : w.cell? ⟨B, 0, none⟩ = some (.string nm) := blk_c hB 0
  have hlt := lt_of_block hB
  go_enter Try.func38, Try.ntmps38
  go_wp2
  go_ret
  exact ⟨rfl, (Below.refl _ _).alloc (Nat.le_refl _) _⟩

/-- The place of the first child of that name; -1: there is none. -/
def AtName (l : List Ch) (nm : ByteArray) (r : Int) : Prop :=
  (∃ k : Nat, k < l.length ∧ r = k ∧ (∃ c, l[k]? = some c ∧ beqS c.name nm = true) ∧ ∀ j c, j < k → l[j]? = some c → beqS c.name nm = false) ∨ (r = -1 ∧ ∀ c ∈ l, beqS c.name nm = false)

def IndexPost (l : List Ch) (nm : ByteArray) (w : World) (e : Ending) (w' : World) : Prop := ∃ r : Int, AtName l nm r ∧ e = .returned (.int .i64 r) ∧ Below w.heap.size w w'

set_option maxHeartbeats 400000 in
theorem index_any (w : World) (B : Nat) (nm : ByteArray) (l : List Ch) (A : Option Addr) (cp : Nat) (hs : Src w eCh A cp l) (hn : l.length ≤ 1000000000) (hB : w.heap[B]? = some (.cells #[.string nm] 9 (0, 0))) :
    Calls Try.prog 37 #[.slice A l.length cp, .func (.func 38) #[] #[.pointer (some ⟨B, 0, none⟩)]] w (IndexPost l nm w) := by
  go_enter Try.func37, Try.ntmps37
  go_wp2
  go_loopw [8] (fun i wr => ∃ k : Nat, k ≤ l.length ∧ i = .int .i64 k ∧ (∀ j c, j < k → l[j]? = some c → beqS c.name nm = false) ∧ Below w.heap.size w wr) (fun i _ => l.length - (intOf i).toNat)
  case atStart => exact ⟨0, Nat.zero_le _, rfl, fun j c h => by omega, Below.refl _ _⟩
  case round =>
    obtain ⟨k, hk, rfl, hno, hb⟩ := hrel
    have HNO := Kp.mk hno
    clear hno
    by_cases hlt : k < l.length
    · cases A with
      | none => have := (hs.none rfl).1; subst this; simp at hlt
      | some ad =>
        have hc : l[k]? = some l[k] := List.getElem?_eq_getElem hlt
        obtain ⟨g, o, rfl⟩ := hs.addr (by omega)
        have H0 : wr.cell? ⟨g, o + k * 4, none⟩ = some (.string l[k].name) := (hs.below hb).elem k 0 hlt (by decide)
        have H1 : wr.cell? ⟨g, o + k * 4 + 1, none⟩ = some (.int .i64 l[k].rs) := (hs.below hb).elem k 1 hlt (by decide)
        have H2 : wr.cell? ⟨g, o + k * 4 + 2, none⟩ = some (.bool l[k].runs) := (hs.below hb).elem k 2 hlt (by decide)
        have H3 : wr.cell? ⟨g, o + k * 4 + 3, none⟩ = some (.bool l[k].gone) := (hs.below hb).elem k 3 hlt (by decide)
        obtain ⟨c, hcc⟩ : ∃ c, c = l[k] := ⟨_, rfl⟩
        have HC : Kp (l[k]? = some c) := ⟨hcc ▸ hc⟩; clear hc
        rw [← hcc] at H0 H1 H2 H3
        clear hcc
        have hBr : wr.heap[B]? = some (.cells #[.string nm] 9 (0, 0)) := (Chg.of_below hb NoF).at hB (fun h => h)
        go_wp2_with (go_at_call 38; refine (find1_any _ B nm c hBr).mono ?_; rintro e w1 ⟨rfl, hb1⟩)
        · go_ret
          exact ⟨k, .inl ⟨k, hlt, rfl, ⟨c, HC.out, by assumption⟩, HNO.out⟩, rfl, hb.trans (hb1.mono hb.size)⟩
        · have hne : beqS c.name nm = false := by assumption
          go_roundw
          case rel =>
            refine ⟨k + 1, by omega, by go_num, ?_, hb.trans (hb1.mono hb.size)⟩
            intro j c' hj hc'
            by_cases e : j = k
            · subst e; rw [HC.out] at hc'; cases hc'; exact hne
            · exact HNO.out j c' (by omega) hc'
          case measure => simp [intOf]; omega
    · have hle : l.length ≤ k := by omega
      clear hlt
      go_wp2
      go_ret
      refine ⟨-1, .inr ⟨rfl, fun c hc => ?_⟩, rfl, hb⟩
      obtain ⟨j, hj, e⟩ := List.mem_iff_getElem.1 hc
      exact HNO.out j c (by omega) (by rw [List.getElem?_eq_getElem hj, e])

set_option maxHeartbeats 400000 in
theorem find_any (w : World) (p : Nat) (nm : ByteArray) (l : List Ch) (A : Option Addr) (cp : Nat) (hs : Src w eCh A cp l) (hn : l.length ≤ 1000000000) (hp : w.cell? ⟨p, 3, none⟩ = some (.slice A l.length cp)) (hplt : p < w.heap.size) :
    Calls Try.prog 26 #[.pointer (some ⟨p, 0, none⟩), .string nm] w (IndexPost l nm w) := by
  have hs1 : Src (w.alloc (.cells #[.string nm] 9)) eCh A cp l := hs.below ((Below.refl _ _).alloc (Nat.le_refl _) _)
  have hB1 := blk_new w (.cells #[.string nm] 9)
  go_enter Try.func26, Try.ntmps26
  go_wp2_with (go_at_call 37; refine (index_any _ w.heap.size nm l A cp hs1 hn hB1).mono ?_; rintro e w1 ⟨r, hr, rfl, hb1⟩)
  go_ret
  exact ⟨r, hr, rfl, ((Below.refl w.heap.size w).alloc (Nat.le_refl _) _).trans (hb1.mono (by simp))⟩

def rightB (c : CS) : Bool := decide (1 ≤ c.rs) && decide (c.rs ≤ 3)
set_option maxHeartbeats 400000 in
theorem right_any (w : World) (c : CS) : Calls Try.prog 25 #[.agg #[.string c.name, .int .i64 c.rs]] w fun e w' => e = .returned (.bool (rightB c)) ∧ Below w.heap.size w w' := by
  by_cases h : 1 ≤ c.rs
  · have e1 : rightB c = decide (c.rs ≤ 3) := by simp [rightB, h]
    rw [e1]
    go_enter Try.func25, Try.ntmps25
    go_wp2
    go_ret
    exact ⟨rfl, (Below.refl _ _).alloc (Nat.le_refl _) _⟩
  · have e1 : rightB c = false := by simp [rightB, h]
    rw [e1]
    have hd : decide (1 ≤ c.rs) = false := by simpa using h
    go_enter Try.func25, Try.ntmps25
    go_wp2
    go_ret
    exact ⟨rfl, (Below.refl _ _).alloc (Nat.le_refl _) _⟩

end Go.Proofs.Ytiedfckgkjcheaa
