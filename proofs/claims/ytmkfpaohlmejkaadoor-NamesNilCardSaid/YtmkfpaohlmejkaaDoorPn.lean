/- NamesNil walked: it answers true; its condition stands in the statement. -/
import Derived.Test.YtmkfpaohlmejkaaDoorSt
namespace Go.Proofs.YtmkfpaohlmejkaaDoor
open Go.RowKit

set_option maxRecDepth 100000 in
set_option maxHeartbeats 4000000 in
theorem namesNil_any (w : World) (s : ByteArray) (p : Int) (hT : Tabs w) : Calls Tryd.prog 6 #[.string s, .int .i64 p] w fun e w' => e = .returned (.bool true) ∧ Below w.heap.size w w' := by
  have HT := Kp.mk hT
  clear hT
  go_enter Tryd.func6, Tryd.ntmps6
  go_wp2_with (first
    | (go_at_call 15; refine (gone_nil _ p).mono ?_; rintro e w1 ⟨rfl, rfl⟩)
    | (go_at_call 16; refine (find_nil _ s).mono ?_; rintro e w1 ⟨rfl, rfl⟩)
    | (go_at_call 17; refine (name_nil _ p).mono ?_; rintro e w1 ⟨rfl, rfl⟩)
    | (go_at_call 13; refine (add_nil _ s p).mono ?_; rintro e w1 ⟨rfl, rfl⟩)
    | (go_at_call 14; refine (drop_nil _ s).mono ?_; rintro e w1 ⟨rfl, rfl⟩)
    | (go_at_call 11; refine (all_nil _ 0 (by omega)).mono ?_; rintro e w2 ⟨v, rfl, ho, hf, hb⟩; obtain ⟨A7, c7, hv7, _⟩ := ho.shape; subst hv7; have HB := Kp.mk hb; clear ho hf hb)
    | (go_at_call 9; refine (len_nil _).mono ?_; rintro e w1 ⟨rfl, rfl⟩)
    | (go_at_call 12; refine (known_any _ (HT.out.below HB.out)).mono ?_; rintro e w3 ⟨rfl, hb⟩; have HB3 := Kp.mk (bstep HB.out HB.out.size hb); clear hb))
  go_ret
  exact ⟨rfl, HB3.out⟩
end Go.Proofs.YtmkfpaohlmejkaaDoor
