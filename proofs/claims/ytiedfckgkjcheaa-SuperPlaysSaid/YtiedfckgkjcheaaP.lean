/- What Over, Running, Count and the small functions of package super answer; their bounds stand in each statement. -/
import Derived.Test.YtiedfckgkjcheaaM
namespace Go.Proofs.Ytiedfckgkjcheaa
open Go.RowKit

theorem IsSup.c {w : World} {p : Nat} {lv ev : Value} {s : SupM} (h : IsSup w p lv ev s) (k : Nat) : w.cell? ⟨p, k, none⟩ = (SupC s lv ev)[k]? := blk_c h.blk k
theorem IsSup.f {w : World} {p : Nat} {lv ev : Value} {s : SupM} (h : IsSup w p lv ev s) (k : Nat) : w.frozen? ⟨p, k, none⟩ = false := blk_f h.blk k

set_option maxHeartbeats 400000 in
theorem over_nil (w : World) : Calls Try.prog 12 #[.pointer none] w fun e w' => e = .returned (.bool false) ∧ w = w' := by
  go_enter Try.func12, Try.ntmps12
  go_wp2
  go_ret
  exact ⟨rfl, rfl⟩
set_option maxHeartbeats 400000 in
theorem over_any (w : World) (p : Nat) (lv ev : Value) (s : SupM) (hs : IsSup w p lv ev s) : Calls Try.prog 12 #[.pointer (some ⟨p, 0, none⟩)] w fun e w' => e = .returned (.bool s.ov) ∧ w = w' := by
  have h5 : w.cell? ⟨p, 5, none⟩ = some (.bool s.ov) := hs.c 5
  go_enter Try.func12, Try.ntmps12
  go_wp2
  go_ret
  exact ⟨rfl, rfl⟩

def runningL (l : List Ch) : List ByteArray := (l.filter (·.runs)).map (·.name)
theorem runningL_snoc (l : List Ch) (c : Ch) : runningL (l ++ [c]) = runningL l ++ if c.runs then [c.name] else [] := by
  unfold runningL; cases h : c.runs <;> simp [List.filter_append, h]
theorem runningL_len (l : List Ch) : (runningL l).length ≤ l.length := by unfold runningL; rw [List.length_map]; exact List.length_filter_le _ _

set_option maxHeartbeats 400000 in
theorem running_nil (w : World) : Calls Try.prog 15 #[.pointer none] w fun e w' => e = .returned (.slice none 0 0) ∧ w = w' := by
  go_enter Try.func15, Try.ntmps15
  go_wp2
  go_ret
  exact ⟨rfl, rfl⟩

def RunPost (w : World) (s : SupM) (e : Ending) (w' : World) : Prop := ∃ v, e = .returned v ∧ Own w' 9 eStr v (runningL s.l) ∧ Fresh w v ∧ Below w.heap.size w w'
set_option maxHeartbeats 1000000 in
theorem running_any (w : World) (p : Nat) (lv ev : Value) (s : SupM) (hs : IsSup w p lv ev s) (hn : s.l.length ≤ 1000) :
    Calls Try.prog 15 #[.pointer (some ⟨p, 0, none⟩)] w (RunPost w s) := by
  obtain ⟨A, c, hlv, _, _, hA0, hA1⟩ := hs.l.shape
  subst hlv
  have hA := Kp.mk hA1
  clear hA1
  have h3 : w.cell? ⟨p, 3, none⟩ = some (.slice A s.l.length c) := hs.c 3
  go_enter Try.func15, Try.ntmps15
  go_wp2
  go_loopw [3, 13] (fun v i wr => ∃ k : Nat, k ≤ s.l.length ∧ i = .int .i64 k ∧ Own wr 9 eStr v (runningL (s.l.take k)) ∧ Fresh w v ∧ Below w.heap.size w wr) (fun _ i _ => s.l.length - (intOf i).toNat)
  case atStart => exact ⟨0, Nat.zero_le _, rfl, Own.nil _ _ _, Fresh.nil _ _ _, Below.refl _ _⟩
  case round =>
    obtain ⟨k, hk, rfl, hown, hfr, hb⟩ := hrel
    by_cases hlt : k < s.l.length
    · cases A with
      | none => have := (hA0 rfl).1; rw [this] at hlt; simp at hlt
      | some a =>
        obtain ⟨g, rfl⟩ := hA.out a rfl
        have ht : s.l.take (k + 1) = s.l.take k ++ [s.l[k]] := List.take_succ_eq_append_getElem hlt
        have hl : (runningL (s.l.take k)).length ≤ k := Nat.le_trans (runningL_len _) (List.length_take_le _ _)
        have hsr := (hs.below hb).l
        have H0 : wr.cell? ⟨g, k * 4, none⟩ = some (.string s.l[k].name) := hsr.elem k 0 hlt (by decide)
        have H1 : wr.cell? ⟨g, k * 4 + 1, none⟩ = some (.int .i64 s.l[k].rs) := hsr.elem k 1 hlt (by decide)
        have H2 : wr.cell? ⟨g, k * 4 + 2, none⟩ = some (.bool s.l[k].runs) := hsr.elem k 2 hlt (by decide)
        have H3 : wr.cell? ⟨g, k * 4 + 3, none⟩ = some (.bool s.l[k].gone) := hsr.elem k 3 hlt (by decide)
        obtain ⟨x, hx⟩ : ∃ x, x = s.l[k] := ⟨_, rfl⟩
        rw [← hx] at H0 H1 H2 H3 ht
        clear hx
        have HS : Kp (runningL (s.l.take (k + 1)) = runningL (s.l.take k) ++ if x.runs then [x.name] else []) := ⟨by rw [ht, runningL_snoc]⟩
        clear ht
        have hown2 := hown.alloc (.cells #[.string x.name, .int .i64 x.rs, .bool x.runs, .bool x.gone] 65)
        cases hr : x.runs
        · rw [hr] at H2 hown2
          go_wp2
          go_roundw
          case rel => exact ⟨k + 1, by omega, by go_num, by rw [HS.out, hr]; simpa using hown2, hfr, hb.alloc hb.size _⟩
          case measure => simp [intOf]; omega
        · rw [hr] at H2 hown2
          go_wp2_with (at_builtin; refine app1_ev T36 x.name rfl _ _ rfl hown2 rfl rfl rfl (by simp) rfl (by omega) (by omega) ?_; intro A' n' c' w1 h0 h1 h2 h3)
          go_roundw
          case rel => exact ⟨k + 1, by omega, by go_num, by rw [HS.out, hr]; exact h1, hfr.app (a := wr.alloc _) (hb.alloc hb.size _).size h3, chg_below (hb.alloc hb.size _) h2 hfr (hb.alloc hb.size _).size⟩
          case measure => simp [intOf]; omega
    · have hle : s.l.length ≤ k := by omega
      clear hlt
      go_wp2
      go_ret
      exact ⟨_, rfl, by rwa [List.take_of_length_le hle] at hown, hfr, hb⟩

theorem all_any (w : World) (v : Value) : Calls Try.prog 29 #[v] w fun e w' => e = .returned (.bool true) ∧ w = w' := by
  go_enter Try.func29, Try.ntmps29
  go_wp2
  go_ret
  exact ⟨rfl, rfl⟩
theorem oneForOne_any (w : World) (a b c : Value) : Calls Try.prog 39 #[a, b, c] w fun e w' => e = .returned (.bool false) ∧ w = w' := by
  go_enter Try.func39, Try.ntmps39
  go_wp2
  go_ret
  exact ⟨rfl, rfl⟩
theorem oneForAll_any (w : World) (a : Value) (k i : Int) : Calls Try.prog 40 #[a, .int .i64 k, .int .i64 i] w fun e w' => e = .returned (.bool (i != k)) ∧ w = w' := by
  go_enter Try.func40, Try.ntmps40
  go_wp2
  go_ret
  exact ⟨rfl, rfl⟩
theorem restForOne_any (w : World) (a : Value) (k i : Int) : Calls Try.prog 41 #[a, .int .i64 k, .int .i64 i] w fun e w' => e = .returned (.bool (decide (k < i))) ∧ w = w' := by
  go_enter Try.func41, Try.ntmps41
  go_wp2
  go_ret
  exact ⟨rfl, rfl⟩
theorem strategies_any (w : World) : Calls Try.prog 30 #[] w fun e w' => e = .returned (.slice (some ⟨w.heap.size, 0, none⟩) 4 4) ∧ w' = w.alloc (.cells #[.nilFunc, .func (.func 39) #[] #[], .func (.func 40) #[] #[], .func (.func 41) #[] #[]] 69) := by
  go_enter Try.func30, Try.ntmps30
  go_wp2
  go_ret
  exact ⟨rfl, rfl⟩

def withinB (t tick pe : Int) : Bool := decide (t ≤ tick) && decide (tick - t < pe)
set_option maxHeartbeats 400000 in
theorem within_any (w : World) (p : Nat) (t tick pe : Int) (h0 : 0 ≤ tick) (h1 : tick ≤ 9223372036854775807) (h2 : 0 ≤ t)
    (hp : w.cell? ⟨p, 2, none⟩ = some (.int .i64 pe)) :
    Calls Try.prog 32 #[.pointer (some ⟨p, 0, none⟩), .int .i64 t, .int .i64 tick] w fun e w' => e = .returned (.bool (withinB t tick pe)) ∧ w = w' := by
  by_cases hle : t ≤ tick
  · have e1 : withinB t tick pe = decide (tick - t < pe) := by simp [withinB, hle]
    rw [e1]
    go_enter Try.func32, Try.ntmps32
    go_wp2
    go_ret
    exact ⟨rfl, rfl⟩
  · have e1 : withinB t tick pe = false := by simp [withinB, hle]
    rw [e1]
    have hd : decide (t ≤ tick) = false := by simpa using hle
    go_enter Try.func32, Try.ntmps32
    go_wp2
    go_ret
    exact ⟨rfl, rfl⟩

def countL (l : List Int) (tick pe : Int) : Nat := (l.filter fun t => decide (0 ≤ tick) && withinB t tick pe).length
theorem countL_le (l : List Int) (tick pe : Int) : countL l tick pe ≤ l.length := List.length_filter_le _ _
theorem countL_snoc (l : List Int) (t tick pe : Int) : countL (l ++ [t]) tick pe = countL l tick pe + if (decide (0 ≤ tick) && withinB t tick pe) then 1 else 0 := by
  unfold countL; rw [List.filter_append]; cases h : (decide (0 ≤ tick) && withinB t tick pe) <;> simp [h]

set_option maxHeartbeats 400000 in
theorem count_nil (w : World) (v : Value) : Calls Try.prog 13 #[.pointer none, v] w fun e w' => e = .returned (.int .i64 0) ∧ w = w' := by
  go_enter Try.func13, Try.ntmps13
  go_wp2
  go_ret
  exact ⟨rfl, rfl⟩
set_option maxHeartbeats 1000000 in
theorem count_any (w : World) (p : Nat) (lv ev : Value) (s : SupM) (tick : Int) (hs : IsSup w p lv ev s) (h1 : tick ≤ 9223372036854775807)
    (hl : ∀ t ∈ s.ends, 0 ≤ t) (hn : s.ends.length ≤ 9000000000000000000) :
    Calls Try.prog 13 #[.pointer (some ⟨p, 0, none⟩), .int .i64 tick] w fun e w' => e = .returned (.int .i64 (countL s.ends tick s.pe)) ∧ w = w' := by
  obtain ⟨A, c, hlv, _, _, hA0, hA1⟩ := hs.e.shape
  subst hlv
  have hA := Kp.mk hA1
  clear hA1
  have hp : w.cell? ⟨p, 2, none⟩ = some (.int .i64 s.pe) := hs.c 2
  have h3 : w.cell? ⟨p, 7, none⟩ = some (.slice A s.ends.length c) := hs.c 7
  have HL := Kp.mk hl
  clear hl
  go_enter Try.func13, Try.ntmps13
  go_wp2
  go_loop [5, 15] (fun n i => ∃ k : Nat, k ≤ s.ends.length ∧ i = .int .i64 k ∧ n = .int .i64 (countL (s.ends.take k) tick s.pe)) (fun _ i => s.ends.length - (intOf i).toNat)
  case atStart => exact ⟨0, Nat.zero_le _, rfl, rfl⟩
  case round =>
    obtain ⟨k, hk, rfl, rfl⟩ := hrel
    by_cases hlt : k < s.ends.length
    · cases A with
      | none => have := (hA0 rfl).1; rw [this] at hlt; simp at hlt
      | some a =>
        obtain ⟨g, rfl⟩ := hA.out a rfl
        have hc : w.cell? ⟨g, k, none⟩ = some (.int .i64 s.ends[k]) := by have := hs.e.elem k 0 hlt (by decide); simpa [eI64] using this
        have hge := HL.out _ (List.getElem_mem hlt)
        have hcl := countL_le (s.ends.take k) tick s.pe
        have hln : (s.ends.take k).length ≤ k := List.length_take_le _ _
        have ht : s.ends.take (k+1) = s.ends.take k ++ [s.ends[k]] := List.take_succ_eq_append_getElem hlt
        obtain ⟨x, hx⟩ : ∃ x, x = s.ends[k] := ⟨_, rfl⟩
        rw [← hx] at hc hge ht
        clear hx
        have HS : Kp (countL (s.ends.take (k+1)) tick s.pe = countL (s.ends.take k) tick s.pe + if (decide (0 ≤ tick) && withinB x tick s.pe) then 1 else 0) := ⟨by rw [ht]; exact countL_snoc _ _ _ _⟩
        clear ht
        by_cases h0 : 0 ≤ tick
        · go_wp2_with (go_at_call 32; refine (within_any _ p _ _ s.pe h0 h1 hge hp).mono ?_; rintro e w' ⟨rfl, rfl⟩)
          all_goals go_round
          all_goals first
            | (simp only [intOf]; omega)
            | exact ⟨k + 1, by omega, by go_num, by rw [HS.out]; simp [*]⟩
        · have hd : decide (0 ≤ tick) = false := by simpa using h0
          go_wp2
          go_round
          case rel => exact ⟨k + 1, by omega, by go_num, by rw [HS.out]; simp [hd]⟩
          case measure => simp [intOf]; omega
    · have hle : s.ends.length ≤ k := by omega
      clear hlt
      go_wp2
      go_ret
      have ht : s.ends.take k = s.ends := List.take_of_length_le hle
      rw [ht]
      exact ⟨rfl, rfl⟩

end Go.Proofs.Ytiedfckgkjcheaa
