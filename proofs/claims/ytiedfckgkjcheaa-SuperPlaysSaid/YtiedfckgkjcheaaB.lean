/- The operations of the laws as they lie in memory, and small laws on what an end answers; no condition. -/
import Derived.Test.YtiedfckgkjcheaaV
namespace Go.Proofs.Ytiedfckgkjcheaa
open Go.RowKit

structure OpM where
  kind : Int
  name : ByteArray
  normal : Bool
  tick : Int
def eOp : El OpM := ⟨4, fun o => [.int .i64 o.kind, .string o.name, .bool o.normal, .int .i64 o.tick], fun _ => rfl, fun _ u h => by simp at h; rcases h with rfl | rfl | rfl | rfl <;> rfl, by decide⟩

theorem Own.sup {w w' : World} {p : Nat} {lv ev v : Value} {s : SupM} {l : List ByteArray} (h : Own w 9 eStr v l) (hs : IsSup w p lv ev s) (hc : Chg (FP p lv ev) w w') : Own w' 9 eStr v l :=
  h.frame hc fun g hg hF => by
    rcases hF with rfl | h1 | h1
    · exact h.ne hs.blk (by decide) hg
    · obtain ⟨cur, hcur⟩ := hs.l.blk' h1
      exact h.ne hcur (by decide) hg
    · obtain ⟨cur, hcur⟩ := hs.e.blk' h1
      exact h.ne hcur (by decide) hg

theorem exit_acts_len (s : SupM) (k : Nat) (c : Ch) (normal : Bool) (tick : Int) : (exitS s k c normal tick).2.length ≤ s.l.length + s.l.length := by
  unfold exitS
  split
  · simp
  · split
    · simp
    · split
      · show (dA (exL s k c) (fun _ => true) 0).length ≤ _
        have h1 := dA_len (exL s k c) (fun _ => true) 0
        have h3 : (exL s k c).length = s.l.length := by simp [exL]
        omega
      · show (dA (exL s k c) (withF s.st k) 0 ++ upA (exS s k c) (exA s k c)).length ≤ _
        have h1 := dA_len (exL s k c) (withF s.st k) 0
        have h2 := upAk_len (exS s k c) (exA s k c) (exS s k c).length
        rw [upAk_all _ _ _ (Nat.le_refl _)] at h2
        have h3 : (exL s k c).length = s.l.length := by simp [exL]
        have h4 : (exS s k c).length = s.l.length := by simp [exS, exL]
        rw [List.length_append]
        omega
theorem ExitPost.tuple {w w' : World} {p : Nat} {lv ev : Value} {s : SupM} {nm : ByteArray} {normal : Bool} {tick : Int} {e : Ending} (h : ExitPost w p lv ev s nm normal tick e w') :
    ∃ a n, e = .returned (.tuple #[a, .int .i64 n]) ∧ ExitPost w p lv ev s nm normal tick (.returned (.tuple #[a, .int .i64 n])) w' := by
  obtain ⟨r, hr, ⟨h1, rfl, h3⟩ | ⟨h1, k, c, v, ev', hk, hc, rfl, h4⟩⟩ := h
  · exact ⟨_, _, rfl, r, hr, .inl ⟨h1, rfl, h3⟩⟩
  · exact ⟨_, _, rfl, r, hr, .inr ⟨h1, k, c, v, ev', hk, hc, rfl, h4⟩⟩

end Go.Proofs.Ytiedfckgkjcheaa
