/- One call of both names: what step of package names's law answers; bounds stand in each statement. -/
import Derived.Test.YtmkfpaohlmejkaaDoorTw
namespace Go.Proofs.YtmkfpaohlmejkaaDoor
open Go.RowKit

structure OpM where
  kind : Int
  n : ByteArray
  p : Int
def nsOf (ns : List En) (o : OpM) : List En :=
  if o.kind = 0 then addL ns o.n o.p else if o.kind = 1 then outN ns o.n else if o.kind = 2 then outP ns o.p else ns
def StepPost (w0 : World) (p a b q : Nat) (ns' : List En) (e : Ending) (w' : World) : Prop := e = .returned (.bool true) ∧ ∃ lv', Two w0 w' p a b q lv' ns'
theorem nameR_shape (l : List En) (p : Int) : ∃ n c, nameR l p = .tuple #[.string n, .bool c] := ⟨_, _, rfl⟩
theorem findR_shape (l : List En) (s : ByteArray) : ∃ n c, findR l s = .tuple #[.int .i64 n, .bool c] := ⟨_, _, rfl⟩
set_option maxRecDepth 100000 in
set_option maxHeartbeats 8000000 in
theorem step_0 (w0 w : World) (p a b q : Nat) (lv : Value) (ns : List En) (s : ByteArray) (r : Int) (h : Two w0 w p a b q lv ns) (hT : Tabs w0) (hs : s.size ≤ 140737488355328) (hr : KI.ok r) :
    Calls Tryd.prog 8 #[.pointer (some ⟨p, 0, none⟩), .pointer (some ⟨q, 0, none⟩), .agg #[.int .i64 0, .string s, .int .i64 r]] w (StepPost w0 p a b q (nsOf ns ⟨0, s, r⟩)) := by
  have hs2 : s.size ≤ maxLen := by unfold maxLen; omega
  have hbx : Below w.heap.size w (w.alloc (.cells #[.int .i64 0, .string s, .int .i64 r] 31)) := (Below.refl _ _).alloc (Nat.le_refl _) _
  have H := Kp.mk (h.below hbx)
  have HX := Kp.mk (blk_new w (.cells #[.int .i64 0, .string s, .int .i64 r] 31))
  have HZ : Kp (∀ g, FG p a b g → g < w.heap.size) := ⟨h.g.g.lt⟩
  have HZD : Kp (∀ g, FD q lv g → g < w.heap.size) := ⟨h.d.lts⟩
  have HT := Kp.mk hT
  have HR := Kp.mk hr
  clear h hbx hT hr
  go_enter Tryd.func8, Tryd.ntmps8
  have e1 : Kp (nsOf ns ⟨0, s, r⟩ = addL ns s r) := ⟨rfl⟩
  rw [e1.out]
  go_upto_region 3 with fail
  have T0 : Kp (Two w0 (w.alloc (.cells #[.int .i64 0, .string s, .int .i64 r] 31)).drew p a b q lv ns) := ⟨H.out.below (Below.refl _ _).drew⟩
  have X0 : Kp ((w.alloc (.cells #[.int .i64 0, .string s, .int .i64 r] 31)).drew.heap[w.heap.size]? = some (.cells #[.int .i64 0, .string s, .int .i64 r] 31 (0, 0))) := ⟨HX.out⟩
  refine R_begin 999 (fun w9 => w9.cell? ⟨w.heap.size, 1, none⟩ = some (.string s) ∧ w9.cell? ⟨w.heap.size, 2, none⟩ = some (.int .i64 r)) (by kernel_rfl) ⟨blk_c X0.out 1, blk_c X0.out 2⟩ (fun HP0 => ?_)
  refine R_pure 0 rfl (by kernel_rfl) HP0 ?_
  apply Exists.intro
  refine ⟨fun _ _ _ h => h, .inl ⟨by kernel_rfl, fun w9 h9 => ?_⟩, fun HP1 => ?_⟩
  · clear h9; go_simp; first | done | rfl
  clear HP0
  refine R_pure 1 rfl (by kernel_rfl) HP1 ?_
  apply Exists.intro
  refine ⟨fun _ _ _ h => h, .inl ⟨by kernel_rfl, fun w9 h9 => ?_⟩, fun HP2 => ?_⟩
  · clear h9; go_simp; first | done | rfl
  clear HP1
  refine R_take 2 rfl (by kernel_rfl) HP2 ?_
  apply Exists.intro
  refine ⟨fun _ _ _ h => h, .inl ⟨by kernel_rfl, fun w9 h9 => ?_⟩, fun HP3 => ?_⟩
  · obtain ⟨s1, s2⟩ := h9; go_simp; first | done | rfl
  clear HP2
  refine R_pure 3 rfl (by kernel_rfl) HP3 ?_
  apply Exists.intro
  refine ⟨fun _ _ _ h => h, .inl ⟨by kernel_rfl, fun w9 h9 => ?_⟩, fun HP4 => ?_⟩
  · clear h9; go_simp; first | done | rfl
  clear HP3
  refine R_take 4 rfl (by kernel_rfl) HP4 ?_
  apply Exists.intro
  refine ⟨fun _ _ _ h => h, .inl ⟨by kernel_rfl, fun w9 h9 => ?_⟩, fun HP5 => ?_⟩
  · obtain ⟨s1, s2⟩ := h9; go_simp; first | done | rfl
  clear HP4
  refine R_pure 6 rfl (by kernel_rfl) HP5 ?_
  apply Exists.intro
  refine ⟨fun _ _ _ h => h, .inl ⟨by kernel_rfl, fun w9 h9 => ?_⟩, fun HP6 => ?_⟩
  · clear h9; go_simp; first | done | rfl
  clear HP5
  refine R_pure 7 rfl (by kernel_rfl) HP6 ?_
  apply Exists.intro
  refine ⟨fun _ _ _ h => h, .inl ⟨by kernel_rfl, fun w9 h9 => ?_⟩, fun HP7 => ?_⟩
  · clear h9; go_simp; first | done | rfl
  clear HP6
  refine R_take 8 rfl (by kernel_rfl) HP7 ?_
  apply Exists.intro
  refine ⟨fun _ _ _ h => h, .inl ⟨by kernel_rfl, fun w9 h9 => ?_⟩, fun HP8 => ?_⟩
  · obtain ⟨s1, s2⟩ := h9; go_simp; first | done | rfl
  clear HP7
  refine R_pure 9 rfl (by kernel_rfl) HP8 ?_
  apply Exists.intro
  refine ⟨fun _ _ _ h => h, .inl ⟨by kernel_rfl, fun w9 h9 => ?_⟩, fun HP9 => ?_⟩
  · clear h9; go_simp; first | done | rfl
  clear HP8
  refine R_take 10 rfl (by kernel_rfl) HP9 ?_
  apply Exists.intro
  refine ⟨fun _ _ _ h => h, .inl ⟨by kernel_rfl, fun w9 h9 => ?_⟩, fun HP10 => ?_⟩
  · obtain ⟨s1, s2⟩ := h9; go_simp; first | done | rfl
  clear HP9
  refine R_all [5] (by kernel_rfl) ?_
  refine AllR.cons (i := 5) rfl (fun K9 HK9 => ?_) ?_
  · go_simp
    refine (add_any _ p a b ns T0.out.g (HT.out.below T0.out.bel) s hs r HR.out).mono ?_
    rintro e w5 ⟨rfl, h5, c5⟩
    have C5 := Kp.mk c5
    have H5 := Kp.mk h5
    have D5 := Kp.mk (T0.out.dturn c5)
    have X5 := Kp.mk (c5.at X0.out (fun hF => by have h1 := HZ.out _ hF; omega))
    clear h5 c5
    go_simp
    refine HK9.out _ _ (.inr ⟨blk_c X5.out 1, blk_c X5.out 2⟩) (fun HP11 => ?_)
    clear HK9 K9
    refine R_all [11] (by kernel_rfl) ?_
    refine AllR.cons (i := 11) rfl (fun K9 HK9 => ?_) ?_
    · go_simp
      refine (dadd_any _ q lv ns s hs r D5.out T0.out.g.ok).mono ?_
      rintro e w6 ⟨rfl, h6⟩
      have H6 := Kp.mk h6
      have X6 := Kp.mk (h6.choose_spec.2.2.at X5.out (fun hF => by have h1 := HZD.out _ hF; omega))
      clear h6
      go_simp
      refine HK9.out _ _ (.inr ⟨blk_c X6.out 1, blk_c X6.out 2⟩) (fun HP12 => ?_)
      clear HK9 K9
      refine R_pure 12 rfl (by kernel_rfl) HP12 ?_
      apply Exists.intro
      refine ⟨fun _ _ _ h => h, .inl ⟨by kernel_rfl, fun w9 h9 => ?_⟩, fun HP13 => ?_⟩
      · clear h9; go_simp; first | done | rfl
      clear HP12
      refine R_pure 13 rfl (by kernel_rfl) HP13 ?_
      apply Exists.intro
      refine ⟨fun _ _ _ h => h, .inl ⟨by kernel_rfl, fun w9 h9 => ?_⟩, fun HP14 => ?_⟩
      · clear h9; go_simp; first | done | rfl
      clear HP13
      refine R_done (by kernel_rfl) ?_
      go_wp2
      go_ret
      exact ⟨rfl, T0.out.step C5.out H5.out H6.out⟩
    exact AllR.nil
  exact AllR.nil
set_option maxRecDepth 100000 in
set_option maxHeartbeats 8000000 in
theorem step_1 (w0 w : World) (p a b q : Nat) (lv : Value) (ns : List En) (s : ByteArray) (r : Int) (h : Two w0 w p a b q lv ns) (hT : Tabs w0) (hs : s.size ≤ 140737488355328) (hr : KI.ok r) :
    Calls Tryd.prog 8 #[.pointer (some ⟨p, 0, none⟩), .pointer (some ⟨q, 0, none⟩), .agg #[.int .i64 1, .string s, .int .i64 r]] w (StepPost w0 p a b q (nsOf ns ⟨1, s, r⟩)) := by
  have hs2 : s.size ≤ maxLen := by unfold maxLen; omega
  have hbx : Below w.heap.size w (w.alloc (.cells #[.int .i64 1, .string s, .int .i64 r] 31)) := (Below.refl _ _).alloc (Nat.le_refl _) _
  have H := Kp.mk (h.below hbx)
  have HX := Kp.mk (blk_new w (.cells #[.int .i64 1, .string s, .int .i64 r] 31))
  have HZ : Kp (∀ g, FG p a b g → g < w.heap.size) := ⟨h.g.g.lt⟩
  have HZD : Kp (∀ g, FD q lv g → g < w.heap.size) := ⟨h.d.lts⟩
  have HT := Kp.mk hT
  have HR := Kp.mk hr
  clear h hbx hT hr
  go_enter Tryd.func8, Tryd.ntmps8
  have e1 : Kp (nsOf ns ⟨1, s, r⟩ = outN ns s) := ⟨rfl⟩
  rw [e1.out]
  go_upto_region 5 with fail
  have T0 : Kp (Two w0 (w.alloc (.cells #[.int .i64 1, .string s, .int .i64 r] 31)).drew p a b q lv ns) := ⟨H.out.below (Below.refl _ _).drew⟩
  have X0 : Kp ((w.alloc (.cells #[.int .i64 1, .string s, .int .i64 r] 31)).drew.heap[w.heap.size]? = some (.cells #[.int .i64 1, .string s, .int .i64 r] 31 (0, 0))) := ⟨HX.out⟩
  refine R_begin 999 (fun w9 => w9.cell? ⟨w.heap.size, 1, none⟩ = some (.string s) ∧ w9.cell? ⟨w.heap.size, 2, none⟩ = some (.int .i64 r)) (by kernel_rfl) ⟨blk_c X0.out 1, blk_c X0.out 2⟩ (fun HP0 => ?_)
  refine R_pure 0 rfl (by kernel_rfl) HP0 ?_
  apply Exists.intro
  refine ⟨fun _ _ _ h => h, .inl ⟨by kernel_rfl, fun w9 h9 => ?_⟩, fun HP1 => ?_⟩
  · clear h9; go_simp; first | done | rfl
  clear HP0
  refine R_pure 1 rfl (by kernel_rfl) HP1 ?_
  apply Exists.intro
  refine ⟨fun _ _ _ h => h, .inl ⟨by kernel_rfl, fun w9 h9 => ?_⟩, fun HP2 => ?_⟩
  · clear h9; go_simp; first | done | rfl
  clear HP1
  refine R_take 2 rfl (by kernel_rfl) HP2 ?_
  apply Exists.intro
  refine ⟨fun _ _ _ h => h, .inl ⟨by kernel_rfl, fun w9 h9 => ?_⟩, fun HP3 => ?_⟩
  · obtain ⟨s1, s2⟩ := h9; go_simp; first | done | rfl
  clear HP2
  refine R_pure 4 rfl (by kernel_rfl) HP3 ?_
  apply Exists.intro
  refine ⟨fun _ _ _ h => h, .inl ⟨by kernel_rfl, fun w9 h9 => ?_⟩, fun HP4 => ?_⟩
  · clear h9; go_simp; first | done | rfl
  clear HP3
  refine R_pure 5 rfl (by kernel_rfl) HP4 ?_
  apply Exists.intro
  refine ⟨fun _ _ _ h => h, .inl ⟨by kernel_rfl, fun w9 h9 => ?_⟩, fun HP5 => ?_⟩
  · clear h9; go_simp; first | done | rfl
  clear HP4
  refine R_take 6 rfl (by kernel_rfl) HP5 ?_
  apply Exists.intro
  refine ⟨fun _ _ _ h => h, .inl ⟨by kernel_rfl, fun w9 h9 => ?_⟩, fun HP6 => ?_⟩
  · obtain ⟨s1, s2⟩ := h9; go_simp; first | done | rfl
  clear HP5
  refine R_all [3] (by kernel_rfl) ?_
  refine AllR.cons (i := 3) rfl (fun K9 HK9 => ?_) ?_
  · go_simp
    refine (drop_any _ p a b ns T0.out.g s hs2).mono ?_
    rintro e w5 ⟨rfl, h5, c5⟩
    have C5 := Kp.mk c5
    have H5 := Kp.mk h5
    have D5 := Kp.mk (T0.out.dturn c5)
    have X5 := Kp.mk (c5.at X0.out (fun hF => by have h1 := HZ.out _ hF; omega))
    clear h5 c5
    go_simp
    refine HK9.out _ _ (.inr ⟨blk_c X5.out 1, blk_c X5.out 2⟩) (fun HP7 => ?_)
    clear HK9 K9
    refine R_all [7] (by kernel_rfl) ?_
    refine AllR.cons (i := 7) rfl (fun K9 HK9 => ?_) ?_
    · go_simp
      refine (ddrop_any _ q lv ns s D5.out T0.out.g.ok).mono ?_
      rintro e w6 ⟨rfl, h6⟩
      have H6 := Kp.mk h6
      have X6 := Kp.mk (h6.choose_spec.2.2.at X5.out (fun hF => by have h1 := HZD.out _ hF; omega))
      clear h6
      go_simp
      refine HK9.out _ _ (.inr ⟨blk_c X6.out 1, blk_c X6.out 2⟩) (fun HP8 => ?_)
      clear HK9 K9
      refine R_pure 8 rfl (by kernel_rfl) HP8 ?_
      apply Exists.intro
      refine ⟨fun _ _ _ h => h, .inl ⟨by kernel_rfl, fun w9 h9 => ?_⟩, fun HP9 => ?_⟩
      · clear h9; go_simp; first | done | rfl
      clear HP8
      refine R_pure 9 rfl (by kernel_rfl) HP9 ?_
      apply Exists.intro
      refine ⟨fun _ _ _ h => h, .inl ⟨by kernel_rfl, fun w9 h9 => ?_⟩, fun HP10 => ?_⟩
      · clear h9; go_simp; first | done | rfl
      clear HP9
      refine R_done (by kernel_rfl) ?_
      go_wp2
      go_ret
      exact ⟨rfl, T0.out.step C5.out H5.out H6.out⟩
    exact AllR.nil
  exact AllR.nil
set_option maxRecDepth 100000 in
set_option maxHeartbeats 8000000 in
theorem step_2 (w0 w : World) (p a b q : Nat) (lv : Value) (ns : List En) (s : ByteArray) (r : Int) (h : Two w0 w p a b q lv ns) (hT : Tabs w0) (hs : s.size ≤ 140737488355328) (hr : KI.ok r) :
    Calls Tryd.prog 8 #[.pointer (some ⟨p, 0, none⟩), .pointer (some ⟨q, 0, none⟩), .agg #[.int .i64 2, .string s, .int .i64 r]] w (StepPost w0 p a b q (nsOf ns ⟨2, s, r⟩)) := by
  have hs2 : s.size ≤ maxLen := by unfold maxLen; omega
  have hbx : Below w.heap.size w (w.alloc (.cells #[.int .i64 2, .string s, .int .i64 r] 31)) := (Below.refl _ _).alloc (Nat.le_refl _) _
  have H := Kp.mk (h.below hbx)
  have HX := Kp.mk (blk_new w (.cells #[.int .i64 2, .string s, .int .i64 r] 31))
  have HZ : Kp (∀ g, FG p a b g → g < w.heap.size) := ⟨h.g.g.lt⟩
  have HZD : Kp (∀ g, FD q lv g → g < w.heap.size) := ⟨h.d.lts⟩
  have HT := Kp.mk hT
  have HR := Kp.mk hr
  clear h hbx hT hr
  go_enter Tryd.func8, Tryd.ntmps8
  have e1 : Kp (nsOf ns ⟨2, s, r⟩ = outP ns r) := ⟨rfl⟩
  rw [e1.out]
  obtain ⟨n, c, hnr⟩ := nameR_shape ns r
  have c1 := gone_any _ p a b ns H.out.g r HR.out
  rw [hnr] at c1
  have hd : ∀ w5, Chg (FG p a b) (w.alloc (.cells #[.int .i64 2, .string s, .int .i64 r] 31)) w5 → Calls Tryd.prog 21 #[.pointer (some ⟨q, 0, none⟩), .int .i64 r] w5 (DPost w5 q lv (.tuple #[.string n, .bool c]) (outP ns r)) := fun w5 c5 => by
    have := dgone_any w5 q lv ns r (H.out.dturn c5) H.out.g.ok
    rw [hnr] at this
    exact this
  have HD := Kp.mk hd
  have C1 := Kp.mk c1
  have f2 := blk_c HX.out 2
  have fl := lt_of_block HX.out
  have q1 : (n.toList == n.toList) = true := by simp
  have q2 : (c == c) = true := by simp
  clear hnr hd c1
  go_wp2_with (first
    | (go_at_call 15; refine C1.out.mono ?_; rintro e w5 ⟨rfl, h5, c5⟩; have C5 := Kp.mk c5; have H5 := Kp.mk h5; have x5 := c5.at HX.out (fun hF => by have h1 := HZ.out _ hF; omega); have f5 := blk_c x5 2; have fl5 := lt_of_block x5; clear h5 c5 x5)
    | (go_at_call 21; refine (HD.out _ C5.out).mono ?_; rintro e w6 ⟨rfl, h6⟩; have H6 := Kp.mk h6; clear h6))
  go_ret
  exact ⟨rfl, H.out.step C5.out H5.out H6.out⟩
set_option maxRecDepth 100000 in
set_option maxHeartbeats 8000000 in
theorem step_no (w0 w : World) (p a b q : Nat) (lv : Value) (ns : List En) (s : ByteArray) (r : Int) (kd : Int) (e0 : (kd == 0) = false) (e1 : (kd == 1) = false) (e2 : (kd == 2) = false) (h : Two w0 w p a b q lv ns) (hT : Tabs w0) (hs : s.size ≤ 140737488355328) (hr : KI.ok r) :
    Calls Tryd.prog 8 #[.pointer (some ⟨p, 0, none⟩), .pointer (some ⟨q, 0, none⟩), .agg #[.int .i64 kd, .string s, .int .i64 r]] w (StepPost w0 p a b q (nsOf ns ⟨kd, s, r⟩)) := by
  have hs2 : s.size ≤ maxLen := by unfold maxLen; omega
  have hbx : Below w.heap.size w (w.alloc (.cells #[.int .i64 kd, .string s, .int .i64 r] 31)) := (Below.refl _ _).alloc (Nat.le_refl _) _
  have H := Kp.mk (h.below hbx)
  have HX := Kp.mk (blk_new w (.cells #[.int .i64 kd, .string s, .int .i64 r] 31))
  have HZ : Kp (∀ g, FG p a b g → g < w.heap.size) := ⟨h.g.g.lt⟩
  have HZD : Kp (∀ g, FD q lv g → g < w.heap.size) := ⟨h.d.lts⟩
  have HT := Kp.mk hT
  have HR := Kp.mk hr
  clear h hbx hT hr
  go_enter Tryd.func8, Tryd.ntmps8
  have e9 : Kp (nsOf ns ⟨kd, s, r⟩ = ns) := ⟨by simp at e0 e1 e2; simp [nsOf, e0, e1, e2]⟩
  rw [e9.out]
  obtain ⟨n, c, hnr⟩ := nameR_shape ns r
  obtain ⟨m, d, hfr⟩ := findR_shape ns s
  have c1 := find_any _ p a b ns H.out.g s hs2
  have c2 := dfindn_any _ q lv ns s H.out.d H.out.g.ok
  have c3 := name_any _ p a b ns H.out.g r HR.out
  have c4 := dname_any _ q lv ns r H.out.d H.out.g.ok
  rw [hnr] at c3 c4
  rw [hfr] at c1 c2
  have C1 := Kp.mk c1
  have C2 := Kp.mk c2
  have C3 := Kp.mk c3
  have C4 := Kp.mk c4
  have f1 := blk_c HX.out 1
  have f2 := blk_c HX.out 2
  have fl := lt_of_block HX.out
  have q1 : (n.toList == n.toList) = true := by simp
  have q2 : (c == c) = true := by simp
  have q3 : (m == m) = true := by simp
  have q4 : (d == d) = true := by simp
  clear hnr hfr c1 c2 c3 c4
  go_wp2_with (first
    | (go_at_call 16; refine C1.out.mono ?_; rintro e w5 ⟨rfl, rfl⟩)
    | (go_at_call 22; refine C2.out.mono ?_; rintro e w5 ⟨rfl, rfl⟩)
    | (go_at_call 17; refine C3.out.mono ?_; rintro e w5 ⟨rfl, rfl⟩)
    | (go_at_call 23; refine C4.out.mono ?_; rintro e w5 ⟨rfl, rfl⟩))
  go_ret
  exact ⟨rfl, lv, H.out⟩
theorem step_any (w0 w : World) (p a b q : Nat) (lv : Value) (ns : List En) (o : OpM) (h : Two w0 w p a b q lv ns) (hT : Tabs w0) (hs : o.n.size ≤ 140737488355328) (hr : KI.ok o.p) :
    Calls Tryd.prog 8 #[.pointer (some ⟨p, 0, none⟩), .pointer (some ⟨q, 0, none⟩), .agg #[.int .i64 o.kind, .string o.n, .int .i64 o.p]] w (StepPost w0 p a b q (nsOf ns o)) := by
  obtain ⟨kd, s, r⟩ := o
  by_cases h0 : kd = 0
  · subst h0; exact step_0 w0 w p a b q lv ns s r h hT hs hr
  · by_cases h1 : kd = 1
    · subst h1; exact step_1 w0 w p a b q lv ns s r h hT hs hr
    · by_cases h2 : kd = 2
      · subst h2; exact step_2 w0 w p a b q lv ns s r h hT hs hr
      · exact step_no w0 w p a b q lv ns s r kd (by simpa using h0) (by simpa using h1) (by simpa using h2) h hT hs hr
end Go.Proofs.YtmkfpaohlmejkaaDoor
