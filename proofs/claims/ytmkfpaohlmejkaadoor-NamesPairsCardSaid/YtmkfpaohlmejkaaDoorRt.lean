/- atom.Right (25) and parleyref01.Cell of an atom (18), walked: each tells whether a text may be an atom; the bound is the model's own greatest string. -/
import Derived.Test.YtmkfpaohlmejkaaDoorUw
import Derived.Test.YtmkfpaohlmejkaaDoorM
import Derived.Test.YtmkfpaohlmejkaaDoorSh
import Derived.Shelf.Unicode.ValidAny
namespace Go.Proofs.YtmkfpaohlmejkaaDoor
open Go.RowKit Go.Lib

/-- The tables of unicode/utf8 as they were laid. -/
def Tabs (w : World) : Prop := Lib.Utf8Tabs (Tryd.validS_ren.g 3) (Tryd.validS_ren.g 4) w
theorem Tabs.below {w w' : World} (h : Tabs w) (hb : Below w.heap.size w w') : Tabs w' := Utf8Tabs_below h hb

set_option maxHeartbeats 4000000 in
set_option maxRecDepth 1000000 in
theorem right_any (s : ByteArray) (w : World) (hs : s.size ≤ 140737488355328) (hT : Tabs w) :
    Calls Tryd.prog 25 #[.string s] w fun e w' => e = .returned (.int .i64 (if okA s then 0 else 20)) ∧ Below w.heap.size w w' := by
  have cV : Calls Tryd.prog 32 #[.string s] w _ := Any.utf8_ValidString Tryd.validS s w (by omega) hT
  unfold okA
  by_cases h : s.size ≤ 255
  · have hz : ¬ (255 : Int) < (s.size : Int) := by omega
    rw [decide_eq_true h, Bool.true_and]
    generalize validD s.data.toList = V at cV ⊢
    cases V
    all_goals
      go_enter Tryd.func25, Tryd.ntmps25
      go_wp2_with (go_at_call 32; refine cV.mono ?_; rintro e w' ⟨rfl, hb⟩)
      go_ret
      exact ⟨rfl, hb⟩
  · have hz : (255 : Int) < (s.size : Int) := by omega
    rw [decide_eq_false h, Bool.false_and]
    clear cV
    go_enter Tryd.func25, Tryd.ntmps25
    go_wp2
    go_ret
    exact ⟨rfl, Below.refl _ _⟩

set_option maxHeartbeats 4000000 in
set_option maxRecDepth 1000000 in
theorem cell_any (s : ByteArray) (w : World) (hs : s.size ≤ 140737488355328) :
    Calls Tryd.prog 18 #[.agg #[.int .i64 2, .int .i64 0, .string s]] w fun e w' => e = .returned (.int .i64 (if okA s then 0 else 20)) ∧ Below w.heap.size w w' := by
  unfold okA
  by_cases h : s.size ≤ 255
  · have hz : ¬ (255 : Int) < (s.size : Int) := by omega
    rw [decide_eq_true h, Bool.true_and]
    have cU := fun w => utf8_any s w hs
    generalize validD s.data.toList = V at cU ⊢
    cases V
    all_goals
      go_enter Tryd.func18, Tryd.ntmps18
      go_wp2_with (go_at_call 26; refine (cU _).mono ?_; rintro e w' ⟨rfl, hb⟩)
      go_ret
      exact ⟨rfl, bstep ((Below.refl _ _).alloc (Nat.le_refl _) _) (by simp) hb⟩
  · have hz : (255 : Int) < (s.size : Int) := by omega
    rw [decide_eq_false h, Bool.false_and]
    go_enter Tryd.func18, Tryd.ntmps18
    go_wp2
    go_ret
    exact ⟨rfl, (Below.refl _ _).alloc (Nat.le_refl _) _⟩
end Go.Proofs.YtmkfpaohlmejkaaDoor
