/- The kinds of elements of package frame, the stack in memory, and what New, SetX, X, Call, Depth, last and Size answer; bounds stand in each statement. -/
import Derived.Test.YthdfmopbihpcoaaProg
import Derived.Test.YthdfmopbihpcoaaLib
namespace Go.Proofs.Ythdfmopbihpcoaa
open Go.RowKit

/-- A register or a slot. -/
structure Cl where
  w : Int
  on : Bool
def eCl : El Cl := ⟨2, fun c => [.int .u64 c.w, .bool c.on], fun _ => rfl, fun _ u h => by simp at h; rcases h with rfl | rfl <;> rfl, by decide⟩
/-- A frame as package frame keeps it. -/
structure Rec where
  rt : Int
  size : Int
  A : Option Addr
  n : Nat
  c : Nat
def eRec : El Rec := ⟨3, fun r => [.int .i64 r.rt, .int .i64 r.size, .slice r.A r.n r.c], fun _ => rfl, fun _ u h => by simp at h; rcases h with rfl | rfl | rfl <;> rfl, by decide⟩
def eU64 : El Int := ⟨1, fun x => [.int .u64 x], fun _ => rfl, fun _ u h => by simp at h; subst h; rfl, by decide⟩
theorem T55 : SlT Try.prog 55 54 eRec 40 := SlT.mk' (k := 3) (z := .agg #[.int .i64 0, .int .i64 0, .slice none 0 0]) Try.underlying55 (by kernel_rfl) rfl rfl
theorem T52 : SlT Try.prog 52 57 eCl 16 := SlT.mk' (k := 2) (z := .agg #[.int .u64 0, .bool false]) Try.underlying52 (by kernel_rfl) rfl rfl
theorem T23 : SlT Try.prog 23 29 eU64 8 := SlT.mk' (k := 1) (z := .int .u64 0) Try.underlying23 (by kernel_rfl) rfl rfl

/-- A frame: where it returns to; its slots, if it has some. -/
structure Fr where
  rt : Int
  y : Option (List Cl)
structure StM where
  x : List Cl
  fs : List Fr
def Fr.size (f : Fr) : Int := match f.y with | none => -1 | some l => l.length
def Fr.cl (f : Fr) : List Cl := f.y.getD []
def allY (fs : List Fr) : List Cl := fs.flatMap Fr.cl
def StC (xs : List Cl) (fv sv : Value) : Array Value := (eCl.flat xs ++ [fv, sv]).toArray
/-- The frames' own lists are cut out of the stack's. -/
def Cuts (sv : Value) (fs : List Fr) (rs : List Rec) : Prop :=
  rs.length = fs.length ∧ ∀ (k : Nat) (r : Rec) (f : Fr), rs[k]? = some r → fs[k]? = some f → r.rt = f.rt ∧ r.size = f.size ∧ r.n = f.cl.length ∧ (f.cl ≠ [] → ∃ g, sv.ownBlock = some g ∧ r.A = some ⟨g, (allY (fs.take k)).length * 2, none⟩)
structure IsSt (w : World) (p : Nat) (fv sv : Value) (s : StM) (rs : List Rec) : Prop where
  blk : w.heap[p]? = some (.cells (StC s.x fv sv) 60 (0, 0))
  x16 : s.x.length = 16
  f : Own w 54 eRec fv rs
  sl : Own w 57 eCl sv (allY s.fs)
  cut : Cuts sv s.fs rs
theorem IsSt.frame {w w' : World} {p : Nat} {fv sv : Value} {s : StM} {rs : List Rec} (h : IsSt w p fv sv s rs) {F : Nat → Prop} (hc : Chg F w w') (hp : ¬ F p) (h1 : ∀ g, fv.ownBlock = some g → ¬ F g) (h2 : ∀ g, sv.ownBlock = some g → ¬ F g) : IsSt w' p fv sv s rs :=
  ⟨hc.at h.blk hp, h.x16, h.f.frame hc h1, h.sl.frame hc h2, h.cut⟩
theorem IsSt.below {w w' : World} {p : Nat} {fv sv : Value} {s : StM} {rs : List Rec} (h : IsSt w p fv sv s rs) (hc : Below w.heap.size w w') : IsSt w' p fv sv s rs :=
  h.frame (Chg.of_below hc NoF) (fun h => h) (fun _ _ h => h) (fun _ _ h => h)
theorem StC_x (xs : List Cl) (fv sv : Value) (i j : Nat) (hi : i < xs.length) (hj : j < 2) : (StC xs fv sv)[i * 2 + j]? = (eCl.f xs[i])[j]? := by
  have h1 := eCl.flat_get xs i j hi hj
  have hl : (eCl.flat xs).length = xs.length * 2 := eCl.flat_length xs
  unfold StC
  rw [List.getElem?_toArray, List.getElem?_append_left (by rw [hl]; omega)]
  exact h1
theorem StC_f (xs : List Cl) (fv sv : Value) (h : xs.length = 16) : (StC xs fv sv)[32]? = some fv ∧ (StC xs fv sv)[33]? = some sv := by
  have hl : (eCl.flat xs).length = 32 := by rw [eCl.flat_length, h]; rfl
  unfold StC
  constructor
  · rw [List.getElem?_toArray, List.getElem?_append_right (by omega), hl]; rfl
  · rw [List.getElem?_toArray, List.getElem?_append_right (by omega), hl]; rfl
theorem IsSt.cf {w : World} {p : Nat} {fv sv : Value} {s : StM} {rs : List Rec} (h : IsSt w p fv sv s rs) : w.cell? ⟨p, 32, none⟩ = some fv := by rw [blk_c h.blk]; exact (StC_f _ _ _ h.x16).1
theorem IsSt.cs {w : World} {p : Nat} {fv sv : Value} {s : StM} {rs : List Rec} (h : IsSt w p fv sv s rs) : w.cell? ⟨p, 33, none⟩ = some sv := by rw [blk_c h.blk]; exact (StC_f _ _ _ h.x16).2
theorem IsSt.cx {w : World} {p : Nat} {fv sv : Value} {s : StM} {rs : List Rec} (h : IsSt w p fv sv s rs) (i : Nat) (x : Cl) (hx : s.x[i]? = some x) :
    w.cell? ⟨p, i * 2, none⟩ = some (.int .u64 x.w) ∧ w.cell? ⟨p, i * 2 + 1, none⟩ = some (.bool x.on) := by
  obtain ⟨hi, rfl⟩ := List.getElem?_eq_some_iff.1 hx
  exact ⟨by rw [blk_c h.blk]; exact StC_x _ _ _ i 0 hi (by decide), by rw [blk_c h.blk]; exact StC_x _ _ _ i 1 hi (by decide)⟩
theorem IsSt.fz {w : World} {p : Nat} {fv sv : Value} {s : StM} {rs : List Rec} (h : IsSt w p fv sv s rs) (k : Nat) : w.frozen? ⟨p, k, none⟩ = false := blk_f h.blk k

/-! ### of what there is not -/
set_option maxHeartbeats 400000 in
theorem last_nil (w : World) : Calls Try.prog 39 #[.pointer none] w fun e w' => e = .returned (.pointer none) ∧ w = w' := by
  go_enter Try.func39, Try.ntmps39
  go_wp2
  go_ret
  exact ⟨rfl, rfl⟩
set_option maxHeartbeats 400000 in
theorem x_nil (w : World) (n : Value) : Calls Try.prog 26 #[.pointer none, n] w fun e w' => e = .returned (.tuple #[.int .u64 0, .bool false]) ∧ w = w' := by
  go_enter Try.func26, Try.ntmps26
  go_wp2
  go_ret2
  exact ⟨rfl, rfl⟩
set_option maxHeartbeats 400000 in
theorem setX_nil (w : World) (n : Value) (u : Value) : Calls Try.prog 24 #[.pointer none, n, u] w fun e w' => e = .returned (.int .i64 2) ∧ w = w' := by
  go_enter Try.func24, Try.ntmps24
  go_wp2
  go_ret
  exact ⟨rfl, rfl⟩
set_option maxHeartbeats 400000 in
theorem keep_nil (w : World) (n : Value) : Calls Try.prog 25 #[.pointer none, n] w fun e w' => e = .returned (.int .i64 2) ∧ w = w' := by
  go_enter Try.func25, Try.ntmps25
  go_wp2
  go_ret
  exact ⟨rfl, rfl⟩
set_option maxHeartbeats 400000 in
theorem call_nil (w : World) (n : Value) : Calls Try.prog 13 #[.pointer none, n] w fun e w' => e = .returned (.int .i64 2) ∧ w = w' := by
  go_enter Try.func13, Try.ntmps13
  go_wp2
  go_ret
  exact ⟨rfl, rfl⟩
set_option maxHeartbeats 400000 in
theorem depth_nil (w : World) : Calls Try.prog 11 #[.pointer none] w fun e w' => e = .returned (.int .i64 0) ∧ w = w' := by
  go_enter Try.func11, Try.ntmps11
  go_wp2
  go_ret
  exact ⟨rfl, rfl⟩
set_option maxHeartbeats 400000 in
theorem ret_nil (w : World) : Calls Try.prog 18 #[.pointer none] w fun e w' => e = .returned (.tuple #[.int .i64 0, .int .i64 2]) ∧ w = w' := by
  go_enter Try.func18, Try.ntmps18
  go_wp2_with (go_at_call 39; refine (last_nil _).mono ?_; rintro e w' ⟨rfl, rfl⟩)
  go_ret2
  exact ⟨rfl, rfl⟩
set_option maxHeartbeats 400000 in
theorem open_nil (w : World) (n : Value) : Calls Try.prog 16 #[.pointer none, n] w fun e w' => e = .returned (.int .i64 2) ∧ w = w' := by
  go_enter Try.func16, Try.ntmps16
  go_wp2_with (go_at_call 39; refine (last_nil _).mono ?_; rintro e w' ⟨rfl, rfl⟩)
  go_ret
  exact ⟨rfl, rfl⟩
set_option maxHeartbeats 400000 in
theorem close_nil (w : World) : Calls Try.prog 19 #[.pointer none] w fun e w' => e = .returned (.int .i64 2) ∧ w = w' := by
  go_enter Try.func19, Try.ntmps19
  go_wp2_with (go_at_call 39; refine (last_nil _).mono ?_; rintro e w' ⟨rfl, rfl⟩)
  go_ret
  exact ⟨rfl, rfl⟩
set_option maxHeartbeats 400000 in
theorem size_nil (w : World) : Calls Try.prog 12 #[.pointer none] w fun e w' => e = .returned (.int .i64 (-1)) ∧ w = w' := by
  go_enter Try.func12, Try.ntmps12
  go_wp2_with (go_at_call 39; refine (last_nil _).mono ?_; rintro e w' ⟨rfl, rfl⟩)
  go_ret
  exact ⟨rfl, rfl⟩
set_option maxHeartbeats 400000 in
theorem setY_nil (w : World) (n : Value) (u : Value) : Calls Try.prog 17 #[.pointer none, n, u] w fun e w' => e = .returned (.int .i64 2) ∧ w = w' := by
  go_enter Try.func17, Try.ntmps17
  go_wp2_with (go_at_call 39; refine (last_nil _).mono ?_; rintro e w' ⟨rfl, rfl⟩)
  go_ret
  exact ⟨rfl, rfl⟩
set_option maxHeartbeats 400000 in
theorem y_nil (w : World) (n : Value) : Calls Try.prog 27 #[.pointer none, n] w fun e w' => e = .returned (.tuple #[.int .u64 0, .bool false]) ∧ w = w' := by
  go_enter Try.func27, Try.ntmps27
  go_wp2_with (go_at_call 39; refine (last_nil _).mono ?_; rintro e w' ⟨rfl, rfl⟩)
  go_ret2
  exact ⟨rfl, rfl⟩
set_option maxHeartbeats 400000 in
theorem swap_nil (w : World) (l : Value) : Calls Try.prog 20 #[.pointer none, l] w fun e w' => e = .returned (.int .i64 2) ∧ w = w' := by
  go_enter Try.func20, Try.ntmps20
  go_wp2
  go_ret
  exact ⟨rfl, rfl⟩
set_option maxHeartbeats 400000 in
theorem copy_nil (w : World) : Calls Try.prog 21 #[.pointer none] w fun e w' => e = .returned (.pointer none) ∧ w = w' := by
  go_enter Try.func21, Try.ntmps21
  go_wp2
  go_ret
  exact ⟨rfl, rfl⟩
/-! ### New -/
theorem own_lit {α : Type} {w : World} {T : TypeId} {E : El α} {g n : Nat} {cs : Array Value} {l : List α} (hb : w.heap[g]? = some (.cells cs T (0, 0))) (hcs : cs.toList = E.flat l) (hn : n = l.length) (hm : n ≤ 1000000000) : Own w T E (.slice (some ⟨g, 0, none⟩) n n) l := by
  subst hn
  have hl : (E.flat l).length = l.length * E.k := E.flat_length l
  have hsz : cs.size = l.length * E.k := by rw [← hl, ← hcs]; simp
  exact ⟨⟨hl, .inr ⟨g, l.length, cs, rfl, Nat.zero_le _, hb, Nat.le_refl _, by simp only [maxLen]; omega, hsz, by rw [hcs, ← hl]; exact List.take_length⟩⟩⟩
def zeroCl : Cl := ⟨0, false⟩
def newSt : StM := ⟨List.replicate 16 zeroCl, [⟨-1, none⟩]⟩
set_option maxHeartbeats 1000000 in
theorem new_any (w : World) : Calls Try.prog 7 #[] w fun e w' => ∃ p fv rs, w.heap.size ≤ p ∧ Fresh w fv ∧ e = .returned (.pointer (some ⟨p, 0, none⟩)) ∧ IsSt w' p fv (.slice none 0 0) newSt rs ∧ Below w.heap.size w w' := by
  go_enter Try.func7, Try.ntmps7
  go_wp2
  go_ret
  have hb : Below w.heap.size w ((w.alloc (.cells #[.int .i64 (-1), .int .i64 (-1), .slice none 0 0] 54)).alloc (.cells (StC newSt.x (.slice (some ⟨w.heap.size, 0, none⟩) 1 1) (.slice none 0 0)) 60)) := ((Below.refl _ _).alloc (Nat.le_refl _) _).alloc (by simp) _
  refine ⟨w.heap.size + 1, .slice (some ⟨w.heap.size, 0, none⟩) 1 1, [⟨-1, -1, none, 0, 0⟩], by omega, fun g hg => by cases hg; exact Nat.le_refl _, rfl, ⟨?_, rfl, ?_, Own.nil _ _ _, rfl, ?_⟩, hb⟩
  · have := blk_new (w.alloc (.cells #[.int .i64 (-1), .int .i64 (-1), .slice none 0 0] 54)) (.cells (StC newSt.x (.slice (some ⟨w.heap.size, 0, none⟩) 1 1) (.slice none 0 0)) 60)
    rw [show (w.alloc (.cells #[.int .i64 (-1), .int .i64 (-1), .slice none 0 0] 54)).heap.size = w.heap.size + 1 from by simp] at this
    exact this
  · exact own_lit (blk_alloc (blk_new w _) _) rfl rfl (by decide)
  · intro k r f hr hf
    match k, hr, hf with
    | 0, hr, hf => cases hr; cases hf; exact ⟨rfl, rfl, rfl, fun h => absurd rfl h⟩

end Go.Proofs.Ythdfmopbihpcoaa
