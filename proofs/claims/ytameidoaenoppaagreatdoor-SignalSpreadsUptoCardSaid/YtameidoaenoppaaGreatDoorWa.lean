/- Deaths in memory; what wrong of package signal asks of lists: ContainsFunc, Contains and their closures walked; bounds stand in the statements. -/
import Derived.Test.YtameidoaenoppaaGreatDoorTg
namespace Go.Proofs.YtameidoaenoppaaGreatDoor
open Go.RowKit

/-- A death as it lies in memory, and as it is. -/
structure Dv where
  p : Int
  A : Option Addr
  n : Nat
  c : Nat
def eDv : El Dv := ⟨2, fun x => [.int .i64 x.p, .slice x.A x.n x.c], fun _ => rfl, fun _ u h => by simp at h; rcases h with rfl | rfl <;> rfl, by decide⟩
structure Dth where
  p : Int
  r : List Ce
structure RdD (w : World) (vs : List Dv) (ds : List Dth) : Prop where
  len : vs.length = ds.length
  at_ : ∀ (i : Nat) v d, vs[i]? = some v → ds[i]? = some d → v.p = d.p ∧ v.n = d.r.length ∧ Src w eCe v.A v.c d.r
theorem RdD.below {w w' : World} {vs : List Dv} {ds : List Dth} (h : RdD w vs ds) (hb : Below w.heap.size w w') : RdD w' vs ds :=
  ⟨h.len, fun i v d hv hd => ⟨(h.at_ i v d hv hd).1, (h.at_ i v d hv hd).2.1, (h.at_ i v d hv hd).2.2.below hb⟩⟩
theorem Src.dv {w : World} {g o c : Nat} {t : List Dv} (h : Src w eDv (some ⟨g, o, Option.none⟩) c t) (k : Nat) (x : Dv) (hx : t[k]? = some x) :
    w.cell? ⟨g, o + k * 2, Option.none⟩ = some (.int .i64 x.p) ∧ w.cell? ⟨g, o + k * 2 + 1, Option.none⟩ = some (.slice x.A x.n x.c) := by
  obtain ⟨hk, rfl⟩ := List.getElem?_eq_some_iff.1 hx
  refine ⟨?_, ?_⟩
  · have h1 := h.elem k 0 hk (by decide); simpa [eDv] using h1
  · have h1 := h.elem k 1 hk (by decide); simpa [eDv] using h1
theorem Src.i64 {w : World} {g o c : Nat} {t : List Int} (h : Src w eI64 (some ⟨g, o, Option.none⟩) c t) (k : Nat) (x : Int) (hx : t[k]? = some x) : w.cell? ⟨g, o + k, Option.none⟩ = some (.int .i64 x) := by
  obtain ⟨hk, rfl⟩ := List.getElem?_eq_some_iff.1 hx
  have h1 := h.elem k 0 hk (by decide); simpa [eI64] using h1
theorem TDv : SlT Tryz.prog 24 48 eDv 32 := SlT.mk' (k := 2) (z := .agg #[.int .i64 0, .slice none 0 0]) Tryz.underlying24 (by kernel_rfl) rfl rfl
def badP (l : List Int) : Bool := l.any (fun p => !decide (IsPid p))
theorem badP_snoc (l : List Int) (k : Nat) (x : Int) (hx : l[k]? = some x) : badP (l.take (k + 1)) = (badP (l.take k) || !decide (IsPid x)) := by
  obtain ⟨hk, rfl⟩ := List.getElem?_eq_some_iff.1 hx
  unfold badP
  rw [List.take_succ_eq_append_getElem hk, List.any_append]
  simp
theorem badP_mono {l : List Int} {k : Nat} (h : badP (l.take k) = true) : badP l = true := by
  unfold badP at h ⊢
  rw [List.any_eq_true] at h ⊢
  obtain ⟨x, hx, hb⟩ := h
  exact ⟨x, List.mem_of_mem_take hx, hb⟩
set_option maxHeartbeats 1000000 in
theorem bad_any (w : World) (p : Int) : Calls Tryz.prog 52 #[.int .i64 p] w fun e w' => e = .returned (.bool (!decide (IsPid p))) ∧ w' = w := by
  have H := isPidS_any w p
  cases hp : decide (IsPid p)
  all_goals
    rw [hp] at H
    go_enter Tryz.func52, Tryz.ntmps52
    go_wp2_with (go_at_call 53; refine H.mono ?_; rintro e w1 ⟨rfl, hw1⟩; obtain rfl := hw1.symm)
    go_ret
    exact ⟨rfl, rfl⟩
set_option maxRecDepth 100000 in
set_option maxHeartbeats 2000000 in
theorem ixb_any (w : World) (A : Option Addr) (c : Nat) (l : List Int) (hs : Src w eI64 A c l) (hn : l.length ≤ 9000000000000000000) :
    Calls Tryz.prog 69 #[.slice A l.length c, .func (.func 52) #[] #[]] w fun e w' => ∃ k : Int, e = .returned (.int .i64 k) ∧ decide (0 ≤ k) = badP l ∧ w' = w := by
  have HS := Kp.mk hs
  clear hs
  go_enter Tryz.func69, Tryz.ntmps69
  go_wp2_with fail
  go_loop [5, 8] (fun _ i => ∃ k : Nat, k ≤ l.length ∧ i = .int .i64 k ∧ Kp (badP (l.take k) = false)) (fun _ i => l.length - (intOf i).toNat)
  case atStart => exact ⟨0, Nat.zero_le _, rfl, ⟨rfl⟩⟩
  case round =>
    obtain ⟨k, hk, rfl, HJ⟩ := hrel
    by_cases hlt : k < l.length
    · obtain ⟨x, hx⟩ : ∃ x, l[k]? = some x := ⟨_, List.getElem?_eq_getElem hlt⟩
      obtain ⟨ad, rfl⟩ : ∃ ad, A = some ad := by
        cases A with
        | none => have h9 := (HS.out.none rfl).1; rw [h9] at hlt; simp at hlt
        | some ad => exact ⟨ad, rfl⟩
      obtain ⟨g, o, rfl⟩ := HS.out.addr (by omega)
      have a0 := HS.out.i64 k x hx
      have hsn := badP_snoc l k x hx
      rw [HJ.out, Bool.false_or] at hsn
      have HSN := Kp.mk hsn
      have HB := Kp.mk (bad_any w x)
      have k0 : (0 : Int) ≤ (k : Int) := by omega
      have k1 : (k : Int) < (l.length : Int) := by omega
      clear hsn hx
      cases hb : (!decide (IsPid x))
      · rw [hb] at HSN HB
        clear hb
        go_wp2_with (go_at_call 52; refine HB.out.mono ?_; rintro e w1 ⟨rfl, hw1⟩; obtain rfl := hw1.symm)
        go_round
        case rel => exact ⟨k + 1, by omega, by go_num, HSN⟩
        case measure => simp [intOf]; omega
      · rw [hb] at HSN HB
        clear hb
        have HT : Kp (badP l = true) := ⟨badP_mono HSN.out⟩
        go_wp2_with (go_at_call 52; refine HB.out.mono ?_; rintro e w1 ⟨rfl, hw1⟩; obtain rfl := hw1.symm)
        go_ret
        exact ⟨k, rfl, by rw [HT.out]; simp, rfl⟩
    · have HT : Kp (badP l = false) := ⟨by have := HJ.out; rwa [List.take_of_length_le (by omega)] at this⟩
      go_wp2
      go_ret
      exact ⟨-1, rfl, by rw [HT.out]; rfl, rfl⟩
set_option maxHeartbeats 1000000 in
theorem cfb_any (w : World) (A : Option Addr) (c : Nat) (l : List Int) (hs : Src w eI64 A c l) (hn : l.length ≤ 9000000000000000000) :
    Calls Tryz.prog 54 #[.slice A l.length c, .func (.func 52) #[] #[]] w fun e w' => e = .returned (.bool (badP l)) ∧ w' = w := by
  have H := Kp.mk (ixb_any w A c l hs hn)
  clear hs
  go_enter Tryz.func54, Tryz.ntmps54
  go_wp2_with (go_at_call 69; refine H.out.mono ?_; rintro e w1 ⟨k, rfl, hk, hw1⟩; obtain rfl := hw1.symm; have HK := Kp.mk hk; clear hk)
  go_ret
  exact ⟨by rw [← HK.out]; rfl, rfl⟩
/-! ### slices.Contains -/
set_option maxRecDepth 100000 in
set_option maxHeartbeats 2000000 in
theorem ix_any (w : World) (A : Option Addr) (c : Nat) (l : List Int) (p : Int) (hs : Src w eI64 A c l) (hn : l.length ≤ 9000000000000000000) :
    Calls Tryz.prog 73 #[.slice A l.length c, .int .i64 p] w fun e w' => ∃ k : Int, e = .returned (.int .i64 k) ∧ decide (0 ≤ k) = decide (p ∈ l) ∧ w' = w := by
  have HS := Kp.mk hs
  clear hs
  go_enter Tryz.func73, Tryz.ntmps73
  go_wp2_with fail
  go_loop [5, 8] (fun _ i => ∃ k : Nat, k ≤ l.length ∧ i = .int .i64 k ∧ Kp (p ∉ l.take k)) (fun _ i => l.length - (intOf i).toNat)
  case atStart => exact ⟨0, Nat.zero_le _, rfl, ⟨by simp⟩⟩
  case round =>
    obtain ⟨k, hk, rfl, HJ⟩ := hrel
    by_cases hlt : k < l.length
    · obtain ⟨x, hx⟩ : ∃ x, l[k]? = some x := ⟨_, List.getElem?_eq_getElem hlt⟩
      obtain ⟨ad, rfl⟩ : ∃ ad, A = some ad := by
        cases A with
        | none => have h9 := (HS.out.none rfl).1; rw [h9] at hlt; simp at hlt
        | some ad => exact ⟨ad, rfl⟩
      obtain ⟨g, o, rfl⟩ := HS.out.addr (by omega)
      have a0 := HS.out.i64 k x hx
      have hst : l.take (k + 1) = l.take k ++ [x] := by rw [List.take_succ_eq_append_getElem hlt, (List.getElem?_eq_some_iff.1 hx).2]
      have k0 : (0 : Int) ≤ (k : Int) := by omega
      have k1 : (k : Int) < (l.length : Int) := by omega
      have HX := Kp.mk hx
      have HST := Kp.mk hst
      clear hx hst
      by_cases hpx : p = x
      · have hb : (p == x) = true := by simpa using hpx
        have HT : Kp (p ∈ l) := ⟨by rw [hpx]; exact List.mem_of_getElem? HX.out⟩
        clear hpx
        go_wp2
        go_ret
        exact ⟨k, rfl, ⟨fun _ => HT.out, fun _ => by omega⟩, rfl⟩
      · have hb : (p == x) = false := by simpa using hpx
        have HT : Kp (p ∉ l.take (k + 1)) := ⟨by rw [HST.out, List.mem_append, List.mem_singleton]; rintro (h | h); exact HJ.out h; exact hpx h⟩
        clear hpx
        go_wp2
        go_round
        case rel => exact ⟨k + 1, by omega, by go_num, HT⟩
        case measure => simp [intOf]; omega
    · have HT : Kp (p ∉ l) := ⟨by have := HJ.out; rwa [List.take_of_length_le (by omega)] at this⟩
      go_wp2
      go_ret
      exact ⟨-1, rfl, ⟨fun h => absurd h (by omega), fun h => absurd h HT.out⟩, rfl⟩
set_option maxHeartbeats 1000000 in
theorem cont_any (w : World) (A : Option Addr) (c : Nat) (l : List Int) (p : Int) (hs : Src w eI64 A c l) (hn : l.length ≤ 9000000000000000000) :
    Calls Tryz.prog 58 #[.slice A l.length c, .int .i64 p] w fun e w' => e = .returned (.bool (decide (p ∈ l))) ∧ w' = w := by
  have H := Kp.mk (ix_any w A c l p hs hn)
  clear hs
  go_enter Tryz.func58, Tryz.ntmps58
  go_wp2_with (go_at_call 73; refine H.out.mono ?_; rintro e w1 ⟨k, rfl, hk, hw1⟩; obtain rfl := hw1.symm; have HK := Kp.mk hk; clear hk)
  go_ret
  exact ⟨by rw [← HK.out]; rfl, rfl⟩
/-! ### is a pid among deaths? -/
def hasD (ds : List Dth) (p : Int) : Bool := ds.any (fun d => decide (d.p = p))
set_option maxHeartbeats 1000000 in
theorem eqd_any (w : World) (v : Dv) (Bd : Nat) (p : Int) (hc : w.cell? ⟨Bd, 0, none⟩ = some (.int .i64 p)) :
    Calls Tryz.prog 57 #[.agg #[.int .i64 v.p, .slice v.A v.n v.c], .pointer (some ⟨Bd, 0, none⟩)] w fun e w' => e = .returned (.bool (decide (v.p = p))) ∧ Below w.heap.size w w' := by
  have hb := World.block_lt_of_cell? w _ hc
  have hc1 : (w.alloc (.cells #[.int .i64 v.p, .slice v.A v.n v.c] 48)).cell? ⟨Bd, 0, none⟩ = some (.int .i64 p) := by
    have := ((Below.refl w.heap.size w).alloc (Nat.le_refl _) (.cells #[.int .i64 v.p, .slice v.A v.n v.c] 48)).cell (p := ⟨Bd, 0, none⟩) hb
    rw [this]; exact hc
  by_cases hp : v.p = p
  · have hd : (v.p == p) = true := by simpa using hp
    rw [decide_eq_true hp]
    clear hp
    go_enter Tryz.func57, Tryz.ntmps57
    go_wp2
    go_ret
    exact ⟨rfl, (Below.refl _ _).alloc (Nat.le_refl _) _⟩
  · have hd : (v.p == p) = false := by simpa using hp
    rw [decide_eq_false hp]
    clear hp
    go_enter Tryz.func57, Tryz.ntmps57
    go_wp2
    go_ret
    exact ⟨rfl, (Below.refl _ _).alloc (Nat.le_refl _) _⟩
def hasV (vs : List Dv) (p : Int) : Bool := vs.any (fun v => decide (v.p = p))
theorem hasV_snoc (l : List Dv) (p : Int) (k : Nat) (x : Dv) (hx : l[k]? = some x) : hasV (l.take (k + 1)) p = (hasV (l.take k) p || decide (x.p = p)) := by
  obtain ⟨hk, rfl⟩ := List.getElem?_eq_some_iff.1 hx
  unfold hasV
  rw [List.take_succ_eq_append_getElem hk, List.any_append]
  simp
theorem hasV_mono {l : List Dv} {p : Int} {k : Nat} (h : hasV (l.take k) p = true) : hasV l p = true := by
  unfold hasV at h ⊢
  rw [List.any_eq_true] at h ⊢
  obtain ⟨x, hx, hb⟩ := h
  exact ⟨x, List.mem_of_mem_take hx, hb⟩
set_option maxRecDepth 100000 in
set_option maxHeartbeats 4000000 in
theorem ixd_any (w : World) (A : Option Addr) (c : Nat) (l : List Dv) (Bd : Nat) (p : Int) (hs : Src w eDv A c l) (hn : l.length ≤ 9000000000000000000) (hc : w.cell? ⟨Bd, 0, none⟩ = some (.int .i64 p)) :
    Calls Tryz.prog 72 #[.slice A l.length c, .func (.func 57) #[] #[.pointer (some ⟨Bd, 0, none⟩)]] w fun e w' => ∃ k : Int, e = .returned (.int .i64 k) ∧ decide (0 ≤ k) = hasV l p ∧ Below w.heap.size w w' := by
  have HS := Kp.mk hs
  have HC := Kp.mk hc
  clear hs hc
  go_enter Tryz.func72, Tryz.ntmps72
  go_wp2_with fail
  go_loopw [5, 8] (fun _ i wr => ∃ k : Nat, k ≤ l.length ∧ i = .int .i64 k ∧ Kp (hasV (l.take k) p = false) ∧ Kp (Below w.heap.size w wr)) (fun _ i _ => l.length - (intOf i).toNat)
  case atStart => exact ⟨0, Nat.zero_le _, rfl, ⟨rfl⟩, ⟨Below.refl _ _⟩⟩
  case round =>
    obtain ⟨k, hk, rfl, HJ, HBW⟩ := hrel
    by_cases hlt : k < l.length
    · obtain ⟨x, hx⟩ : ∃ x, l[k]? = some x := ⟨_, List.getElem?_eq_getElem hlt⟩
      obtain ⟨ad, rfl⟩ : ∃ ad, A = some ad := by
        cases A with
        | none => have h9 := (HS.out.none rfl).1; rw [h9] at hlt; simp at hlt
        | some ad => exact ⟨ad, rfl⟩
      obtain ⟨g, o, rfl⟩ := HS.out.addr (by omega)
      obtain ⟨a0, a1⟩ := (HS.out.below HBW.out).dv k x hx
      have hsn := hasV_snoc l p k x hx
      rw [HJ.out, Bool.false_or] at hsn
      have HSN := Kp.mk hsn
      have HB := Kp.mk (eqd_any wr x Bd p ((HBW.out.cell (p := ⟨Bd, 0, none⟩) (World.block_lt_of_cell? w _ HC.out)).trans HC.out))
      have k0 : (0 : Int) ≤ (k : Int) := by omega
      have k1 : (k : Int) < (l.length : Int) := by omega
      clear hsn hx
      cases hb : decide (x.p = p)
      · rw [hb] at HSN HB
        clear hb
        go_wp2_with (go_at_call 57; refine HB.out.mono ?_; rintro e w1 ⟨rfl, hb1⟩; have HB1 := Kp.mk (bstep HBW.out HBW.out.size hb1); clear hb1)
        go_roundw
        case rel => exact ⟨k + 1, by omega, by go_num, HSN, HB1⟩
        case measure => simp [intOf]; omega
      · rw [hb] at HSN HB
        clear hb
        have HT : Kp (hasV l p = true) := ⟨hasV_mono HSN.out⟩
        go_wp2_with (go_at_call 57; refine HB.out.mono ?_; rintro e w1 ⟨rfl, hb1⟩; have HB1 := Kp.mk (bstep HBW.out HBW.out.size hb1); clear hb1)
        go_ret
        exact ⟨k, rfl, by rw [HT.out]; simp, HB1.out⟩
    · have HT : Kp (hasV l p = false) := ⟨by have := HJ.out; rwa [List.take_of_length_le (by omega)] at this⟩
      go_wp2
      go_ret
      exact ⟨-1, rfl, by rw [HT.out]; rfl, HBW.out⟩
set_option maxHeartbeats 1000000 in
theorem cfd_any (w : World) (A : Option Addr) (c : Nat) (l : List Dv) (Bd : Nat) (p : Int) (hs : Src w eDv A c l) (hn : l.length ≤ 9000000000000000000) (hc : w.cell? ⟨Bd, 0, none⟩ = some (.int .i64 p)) :
    Calls Tryz.prog 56 #[.slice A l.length c, .func (.func 57) #[] #[.pointer (some ⟨Bd, 0, none⟩)]] w fun e w' => e = .returned (.bool (hasV l p)) ∧ Below w.heap.size w w' := by
  have H := Kp.mk (ixd_any w A c l Bd p hs hn hc)
  clear hs hc
  go_enter Tryz.func56, Tryz.ntmps56
  go_wp2_with (go_at_call 72; refine H.out.mono ?_; rintro e w1 ⟨k, rfl, hk, hb1⟩; have HK := Kp.mk hk; have HB1 := Kp.mk hb1; clear hk hb1)
  go_ret
  exact ⟨by rw [← HK.out]; rfl, HB1.out⟩
end Go.Proofs.YtameidoaenoppaaGreatDoor
