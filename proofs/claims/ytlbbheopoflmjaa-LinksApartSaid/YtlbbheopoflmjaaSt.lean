/- One call of both graphs: what step of package links's law answers; bounds stand in each statement. -/
import Derived.Test.YtlbbheopoflmjaaPc
namespace Go.Proofs.Ytlbbheopoflmjaa
open Go.RowKit

def StepPost (w0 : World) (p bm lm rm q : Nat) (ns' : List NB) (last' : Int) (e : Ending) (w' : World) : Prop := e = .returned (.bool true) ∧ ∃ lv', Two w0 w' p bm lm rm q lv' ns' last'
structure OpM where
  kind : Int
  a : Int
  b : Int
  ref : Int
def nsOf (ns : List NB) (last : Int) (o : OpM) : List NB :=
  if o.kind = 0 then (if linkE ns o.a o.b = 0 then linkN ns last o.a o.b else ns)
  else if o.kind = 1 then (if unlE ns o.a o.b = 0 then unlN ns o.a o.b else ns)
  else if o.kind = 2 then (if watchE ns o.ref o.a o.b = 0 then watchN ns last o.ref o.a o.b else ns)
  else if o.kind = 3 then (if findE ns o.ref = 0 then leaveN ns o.ref else ns)
  else if o.kind = 5 then (if IsPid o.a then leftN o.a ns else ns)
  else ns
def lastOf (ns : List NB) (last : Int) (o : OpM) : Int :=
  if o.kind = 0 then (if linkE ns o.a o.b = 0 then last + 1 else last)
  else if o.kind = 2 then (if watchE ns o.ref o.a o.b = 0 then last + 1 else last) else last
theorem lastOf_le (ns : List NB) (last : Int) (o : OpM) : lastOf ns last o ≤ last + 1 ∧ last ≤ lastOf ns last o := by
  unfold lastOf
  split
  · split <;> omega
  · split
    · split <;> omega
    · omega
theorem GOk.n1024 {ns : List NB} {last : Int} (h : GOk ns last) : (sn ns).length ≤ 1024 := by rw [List.length_map]; exact h.len
set_option maxRecDepth 100000 in
set_option maxHeartbeats 8000000 in
theorem step_0 (hs : SortC) (w0 w : World) (p bm lm rm q : Nat) (lv : Value) (ns : List NB) (last a b r : Int) (h : Two w0 w p bm lm rm q lv ns last) (ht : last ≤ 900000000000000000) (_hr : -9223372036854775808 ≤ r ∧ r ≤ 9223372036854775807) :
    Calls Try.prog 13 #[.pointer (some ⟨p, 0, none⟩), .pointer (some ⟨q, 0, none⟩), .agg #[.int .i64 0, .int .i64 a, .int .i64 b, .int .i64 r]] w (StepPost w0 p bm lm rm q (nsOf ns last ⟨0, a, b, r⟩) (lastOf ns last ⟨0, a, b, r⟩)) := by
  have hbx : Below w.heap.size w (w.alloc (.cells #[.int .i64 0, .int .i64 a, .int .i64 b, .int .i64 r] 23)) := (Below.refl _ _).alloc (Nat.le_refl _) _
  have H := Kp.mk (h.below hbx)
  have HX := Kp.mk (blk_new w (.cells #[.int .i64 0, .int .i64 a, .int .i64 b, .int .i64 r] 23))
  have HZ : Kp (∀ g, FG p bm lm rm g → g < w.heap.size) := ⟨h.g.g.lt⟩
  have HZD : Kp (∀ g, FD q lv g → g < w.heap.size) := ⟨fun g hg => hg.elim (fun e => e ▸ h.d.lt) (fun e => h.d.own.lt e)⟩
  have HS := Kp.mk hs
  clear h hbx hs
  go_enter Try.func13, Try.ntmps13
  go_upto_region 3 with fail
  have T0 : Kp (Two w0 (w.alloc (.cells #[.int .i64 0, .int .i64 a, .int .i64 b, .int .i64 r] 23)).drew p bm lm rm q lv ns last) := ⟨H.out.below (Below.refl _ _).drew⟩
  have X0 : Kp ((w.alloc (.cells #[.int .i64 0, .int .i64 a, .int .i64 b, .int .i64 r] 23)).drew.heap[w.heap.size]? = some (.cells #[.int .i64 0, .int .i64 a, .int .i64 b, .int .i64 r] 23 (0, 0))) := ⟨HX.out⟩
  refine R_begin 999 (fun w9 => w9.cell? ⟨w.heap.size, 1, none⟩ = some (.int .i64 a) ∧ w9.cell? ⟨w.heap.size, 2, none⟩ = some (.int .i64 b) ∧ w9.cell? ⟨w.heap.size, 3, none⟩ = some (.int .i64 r)) (by kernel_rfl) ⟨blk_c X0.out 1, blk_c X0.out 2, blk_c X0.out 3⟩ (fun HP0 => ?_)
  refine R_pure 0 rfl (by kernel_rfl) HP0 ?_
  apply Exists.intro
  refine ⟨fun _ _ _ h => h, .inl ⟨by kernel_rfl, fun w9 h9 => ?_⟩, fun HP1 => ?_⟩
  · clear h9; go_simp; first | done | rfl
  clear HP0
  refine R_pure 1 rfl (by kernel_rfl) HP1 ?_
  apply Exists.intro
  refine ⟨fun _ _ _ h => h, .inl ⟨by kernel_rfl, fun w9 h9 => ?_⟩, fun HP2 => ?_⟩
  · clear h9; go_simp; first | done | rfl
  clear HP1
  refine R_take 2 rfl (by kernel_rfl) HP2 ?_
  apply Exists.intro
  refine ⟨fun _ _ _ h => h, .inl ⟨by kernel_rfl, fun w9 h9 => ?_⟩, fun HP3 => ?_⟩
  · obtain ⟨s1, s2, s3⟩ := h9; go_simp; first | done | rfl
  clear HP2
  refine R_pure 3 rfl (by kernel_rfl) HP3 ?_
  apply Exists.intro
  refine ⟨fun _ _ _ h => h, .inl ⟨by kernel_rfl, fun w9 h9 => ?_⟩, fun HP4 => ?_⟩
  · clear h9; go_simp; first | done | rfl
  clear HP3
  refine R_take 4 rfl (by kernel_rfl) HP4 ?_
  apply Exists.intro
  refine ⟨fun _ _ _ h => h, .inl ⟨by kernel_rfl, fun w9 h9 => ?_⟩, fun HP5 => ?_⟩
  · obtain ⟨s1, s2, s3⟩ := h9; go_simp; first | done | rfl
  clear HP4
  refine R_pure 6 rfl (by kernel_rfl) HP5 ?_
  apply Exists.intro
  refine ⟨fun _ _ _ h => h, .inl ⟨by kernel_rfl, fun w9 h9 => ?_⟩, fun HP6 => ?_⟩
  · clear h9; go_simp; first | done | rfl
  clear HP5
  refine R_pure 7 rfl (by kernel_rfl) HP6 ?_
  apply Exists.intro
  refine ⟨fun _ _ _ h => h, .inl ⟨by kernel_rfl, fun w9 h9 => ?_⟩, fun HP7 => ?_⟩
  · clear h9; go_simp; first | done | rfl
  clear HP6
  refine R_take 8 rfl (by kernel_rfl) HP7 ?_
  apply Exists.intro
  refine ⟨fun _ _ _ h => h, .inl ⟨by kernel_rfl, fun w9 h9 => ?_⟩, fun HP8 => ?_⟩
  · obtain ⟨s1, s2, s3⟩ := h9; go_simp; first | done | rfl
  clear HP7
  refine R_pure 9 rfl (by kernel_rfl) HP8 ?_
  apply Exists.intro
  refine ⟨fun _ _ _ h => h, .inl ⟨by kernel_rfl, fun w9 h9 => ?_⟩, fun HP9 => ?_⟩
  · clear h9; go_simp; first | done | rfl
  clear HP8
  refine R_take 10 rfl (by kernel_rfl) HP9 ?_
  apply Exists.intro
  refine ⟨fun _ _ _ h => h, .inl ⟨by kernel_rfl, fun w9 h9 => ?_⟩, fun HP10 => ?_⟩
  · obtain ⟨s1, s2, s3⟩ := h9; go_simp; first | done | rfl
  clear HP9
  refine R_all [5] (by kernel_rfl) ?_
  refine AllR.cons (i := 5) rfl (fun K9 HK9 => ?_) ?_
  · go_simp
    refine (link_any _ p bm lm rm ns last a b T0.out.g ht).mono ?_
    rintro e w5 ⟨rfl, c5, h5⟩
    have C5 := Kp.mk c5
    have H5 := Kp.mk h5
    have D5 := Kp.mk (T0.out.dturn c5)
    have X5 := Kp.mk (c5.at X0.out (fun hF => by have h1 := HZ.out _ hF; omega))
    clear h5 c5
    go_simp
    refine HK9.out _ _ (.inr ⟨blk_c X5.out 1, blk_c X5.out 2, blk_c X5.out 3⟩) (fun HP11 => ?_)
    clear HK9 K9
    refine R_all [11] (by kernel_rfl) ?_
    refine AllR.cons (i := 11) rfl (fun K9 HK9 => ?_) ?_
    · go_simp
      refine (dlink_any _ q lv (sn ns) a b D5.out (by have := T0.out.g.ok.n1024; omega)).mono ?_
      rintro e w6 ⟨rfl, h6⟩
      rw [linkE_eq T0.out.g.ok]
      have H6 := Kp.mk h6
      have X6 := Kp.mk (h6.choose_spec.2.1.at X5.out (fun hF => by have h1 := HZD.out _ hF; omega))
      clear h6
      go_simp
      refine HK9.out _ _ (.inr ⟨blk_c X6.out 1, blk_c X6.out 2, blk_c X6.out 3⟩) (fun HP12 => ?_)
      clear HK9 K9
      refine R_pure 12 rfl (by kernel_rfl) HP12 ?_
      apply Exists.intro
      refine ⟨fun _ _ _ h => h, .inl ⟨by kernel_rfl, fun w9 h9 => ?_⟩, fun HP13 => ?_⟩
      · clear h9; go_simp; first | done | rfl
      clear HP12
      refine R_pure 13 rfl (by kernel_rfl) HP13 ?_
      apply Exists.intro
      refine ⟨fun _ _ _ h => h, .inl ⟨by kernel_rfl, fun w9 h9 => ?_⟩, fun HP14 => ?_⟩
      · clear h9; go_simp; first | done | rfl
      clear HP13
      refine R_done (by kernel_rfl) ?_
      go_wp2
      go_ret
      refine ⟨rfl, ?_⟩
      rcases H5.out with ⟨e0, h5⟩ | ⟨e0, h5⟩
      · have e1 : nsOf ns last ⟨0, a, b, r⟩ = ns ∧ lastOf ns last ⟨0, a, b, r⟩ = last := by simp [nsOf, lastOf, e0]
        rw [e1.1, e1.2]
        exact T0.out.step C5.out h5 H6.out (by rw [linkL_eq T0.out.g.ok, if_neg e0])
      · have e1 : nsOf ns last ⟨0, a, b, r⟩ = linkN ns last a b ∧ lastOf ns last ⟨0, a, b, r⟩ = last + 1 := by simp [nsOf, lastOf, e0]
        rw [e1.1, e1.2]
        exact T0.out.step C5.out h5 H6.out (by rw [linkL_eq T0.out.g.ok, if_pos e0])
    exact AllR.nil
  exact AllR.nil
set_option maxRecDepth 100000 in
set_option maxHeartbeats 8000000 in
theorem step_1 (hs : SortC) (w0 w : World) (p bm lm rm q : Nat) (lv : Value) (ns : List NB) (last a b r : Int) (h : Two w0 w p bm lm rm q lv ns last) (ht : last ≤ 900000000000000000) (_hr : -9223372036854775808 ≤ r ∧ r ≤ 9223372036854775807) :
    Calls Try.prog 13 #[.pointer (some ⟨p, 0, none⟩), .pointer (some ⟨q, 0, none⟩), .agg #[.int .i64 1, .int .i64 a, .int .i64 b, .int .i64 r]] w (StepPost w0 p bm lm rm q (nsOf ns last ⟨1, a, b, r⟩) (lastOf ns last ⟨1, a, b, r⟩)) := by
  have hbx : Below w.heap.size w (w.alloc (.cells #[.int .i64 1, .int .i64 a, .int .i64 b, .int .i64 r] 23)) := (Below.refl _ _).alloc (Nat.le_refl _) _
  have H := Kp.mk (h.below hbx)
  have HX := Kp.mk (blk_new w (.cells #[.int .i64 1, .int .i64 a, .int .i64 b, .int .i64 r] 23))
  have HZ : Kp (∀ g, FG p bm lm rm g → g < w.heap.size) := ⟨h.g.g.lt⟩
  have HZD : Kp (∀ g, FD q lv g → g < w.heap.size) := ⟨fun g hg => hg.elim (fun e => e ▸ h.d.lt) (fun e => h.d.own.lt e)⟩
  have HS := Kp.mk hs
  clear h hbx hs
  go_enter Try.func13, Try.ntmps13
  go_upto_region 5 with fail
  have T0 : Kp (Two w0 (w.alloc (.cells #[.int .i64 1, .int .i64 a, .int .i64 b, .int .i64 r] 23)).drew p bm lm rm q lv ns last) := ⟨H.out.below (Below.refl _ _).drew⟩
  have X0 : Kp ((w.alloc (.cells #[.int .i64 1, .int .i64 a, .int .i64 b, .int .i64 r] 23)).drew.heap[w.heap.size]? = some (.cells #[.int .i64 1, .int .i64 a, .int .i64 b, .int .i64 r] 23 (0, 0))) := ⟨HX.out⟩
  refine R_begin 999 (fun w9 => w9.cell? ⟨w.heap.size, 1, none⟩ = some (.int .i64 a) ∧ w9.cell? ⟨w.heap.size, 2, none⟩ = some (.int .i64 b) ∧ w9.cell? ⟨w.heap.size, 3, none⟩ = some (.int .i64 r)) (by kernel_rfl) ⟨blk_c X0.out 1, blk_c X0.out 2, blk_c X0.out 3⟩ (fun HP0 => ?_)
  refine R_pure 0 rfl (by kernel_rfl) HP0 ?_
  apply Exists.intro
  refine ⟨fun _ _ _ h => h, .inl ⟨by kernel_rfl, fun w9 h9 => ?_⟩, fun HP1 => ?_⟩
  · clear h9; go_simp; first | done | rfl
  clear HP0
  refine R_pure 1 rfl (by kernel_rfl) HP1 ?_
  apply Exists.intro
  refine ⟨fun _ _ _ h => h, .inl ⟨by kernel_rfl, fun w9 h9 => ?_⟩, fun HP2 => ?_⟩
  · clear h9; go_simp; first | done | rfl
  clear HP1
  refine R_take 2 rfl (by kernel_rfl) HP2 ?_
  apply Exists.intro
  refine ⟨fun _ _ _ h => h, .inl ⟨by kernel_rfl, fun w9 h9 => ?_⟩, fun HP3 => ?_⟩
  · obtain ⟨s1, s2, s3⟩ := h9; go_simp; first | done | rfl
  clear HP2
  refine R_pure 3 rfl (by kernel_rfl) HP3 ?_
  apply Exists.intro
  refine ⟨fun _ _ _ h => h, .inl ⟨by kernel_rfl, fun w9 h9 => ?_⟩, fun HP4 => ?_⟩
  · clear h9; go_simp; first | done | rfl
  clear HP3
  refine R_take 4 rfl (by kernel_rfl) HP4 ?_
  apply Exists.intro
  refine ⟨fun _ _ _ h => h, .inl ⟨by kernel_rfl, fun w9 h9 => ?_⟩, fun HP5 => ?_⟩
  · obtain ⟨s1, s2, s3⟩ := h9; go_simp; first | done | rfl
  clear HP4
  refine R_pure 6 rfl (by kernel_rfl) HP5 ?_
  apply Exists.intro
  refine ⟨fun _ _ _ h => h, .inl ⟨by kernel_rfl, fun w9 h9 => ?_⟩, fun HP6 => ?_⟩
  · clear h9; go_simp; first | done | rfl
  clear HP5
  refine R_pure 7 rfl (by kernel_rfl) HP6 ?_
  apply Exists.intro
  refine ⟨fun _ _ _ h => h, .inl ⟨by kernel_rfl, fun w9 h9 => ?_⟩, fun HP7 => ?_⟩
  · clear h9; go_simp; first | done | rfl
  clear HP6
  refine R_take 8 rfl (by kernel_rfl) HP7 ?_
  apply Exists.intro
  refine ⟨fun _ _ _ h => h, .inl ⟨by kernel_rfl, fun w9 h9 => ?_⟩, fun HP8 => ?_⟩
  · obtain ⟨s1, s2, s3⟩ := h9; go_simp; first | done | rfl
  clear HP7
  refine R_pure 9 rfl (by kernel_rfl) HP8 ?_
  apply Exists.intro
  refine ⟨fun _ _ _ h => h, .inl ⟨by kernel_rfl, fun w9 h9 => ?_⟩, fun HP9 => ?_⟩
  · clear h9; go_simp; first | done | rfl
  clear HP8
  refine R_take 10 rfl (by kernel_rfl) HP9 ?_
  apply Exists.intro
  refine ⟨fun _ _ _ h => h, .inl ⟨by kernel_rfl, fun w9 h9 => ?_⟩, fun HP10 => ?_⟩
  · obtain ⟨s1, s2, s3⟩ := h9; go_simp; first | done | rfl
  clear HP9
  refine R_all [5] (by kernel_rfl) ?_
  refine AllR.cons (i := 5) rfl (fun K9 HK9 => ?_) ?_
  · go_simp
    refine (unlink_any _ p bm lm rm ns last a b T0.out.g ht).mono ?_
    rintro e w5 ⟨rfl, c5, h5⟩
    have C5 := Kp.mk c5
    have H5 := Kp.mk h5
    have D5 := Kp.mk (T0.out.dturn c5)
    have X5 := Kp.mk (c5.at X0.out (fun hF => by have h1 := HZ.out _ hF; omega))
    clear h5 c5
    go_simp
    refine HK9.out _ _ (.inr ⟨blk_c X5.out 1, blk_c X5.out 2, blk_c X5.out 3⟩) (fun HP11 => ?_)
    clear HK9 K9
    refine R_all [11] (by kernel_rfl) ?_
    refine AllR.cons (i := 11) rfl (fun K9 HK9 => ?_) ?_
    · go_simp
      refine (dunlink_any _ q lv (sn ns) a b D5.out (by have := T0.out.g.ok.n1024; omega)).mono ?_
      rintro e w6 ⟨rfl, h6⟩
      rw [unlE_eq T0.out.g.ok]
      have H6 := Kp.mk h6
      have X6 := Kp.mk (h6.choose_spec.2.1.at X5.out (fun hF => by have h1 := HZD.out _ hF; omega))
      clear h6
      go_simp
      refine HK9.out _ _ (.inr ⟨blk_c X6.out 1, blk_c X6.out 2, blk_c X6.out 3⟩) (fun HP12 => ?_)
      clear HK9 K9
      refine R_pure 12 rfl (by kernel_rfl) HP12 ?_
      apply Exists.intro
      refine ⟨fun _ _ _ h => h, .inl ⟨by kernel_rfl, fun w9 h9 => ?_⟩, fun HP13 => ?_⟩
      · clear h9; go_simp; first | done | rfl
      clear HP12
      refine R_pure 13 rfl (by kernel_rfl) HP13 ?_
      apply Exists.intro
      refine ⟨fun _ _ _ h => h, .inl ⟨by kernel_rfl, fun w9 h9 => ?_⟩, fun HP14 => ?_⟩
      · clear h9; go_simp; first | done | rfl
      clear HP13
      refine R_done (by kernel_rfl) ?_
      go_wp2
      go_ret
      refine ⟨rfl, ?_⟩
      rcases H5.out with ⟨e0, h5⟩ | ⟨e0, h5⟩
      · have e1 : nsOf ns last ⟨1, a, b, r⟩ = ns ∧ lastOf ns last ⟨1, a, b, r⟩ = last := by simp [nsOf, lastOf, e0]
        rw [e1.1, e1.2]
        exact T0.out.step C5.out h5 H6.out (by rw [unlL_eq T0.out.g.ok, if_neg e0])
      · have e1 : nsOf ns last ⟨1, a, b, r⟩ = unlN ns a b ∧ lastOf ns last ⟨1, a, b, r⟩ = last := by simp [nsOf, lastOf, e0]
        rw [e1.1, e1.2]
        exact T0.out.step C5.out h5 H6.out (by rw [unlL_eq T0.out.g.ok, if_pos e0])
    exact AllR.nil
  exact AllR.nil
set_option maxRecDepth 100000 in
set_option maxHeartbeats 8000000 in
theorem step_2 (hs : SortC) (w0 w : World) (p bm lm rm q : Nat) (lv : Value) (ns : List NB) (last a b r : Int) (h : Two w0 w p bm lm rm q lv ns last) (ht : last ≤ 900000000000000000) (_hr : -9223372036854775808 ≤ r ∧ r ≤ 9223372036854775807) :
    Calls Try.prog 13 #[.pointer (some ⟨p, 0, none⟩), .pointer (some ⟨q, 0, none⟩), .agg #[.int .i64 2, .int .i64 a, .int .i64 b, .int .i64 r]] w (StepPost w0 p bm lm rm q (nsOf ns last ⟨2, a, b, r⟩) (lastOf ns last ⟨2, a, b, r⟩)) := by
  have hbx : Below w.heap.size w (w.alloc (.cells #[.int .i64 2, .int .i64 a, .int .i64 b, .int .i64 r] 23)) := (Below.refl _ _).alloc (Nat.le_refl _) _
  have H := Kp.mk (h.below hbx)
  have HX := Kp.mk (blk_new w (.cells #[.int .i64 2, .int .i64 a, .int .i64 b, .int .i64 r] 23))
  have HZ : Kp (∀ g, FG p bm lm rm g → g < w.heap.size) := ⟨h.g.g.lt⟩
  have HZD : Kp (∀ g, FD q lv g → g < w.heap.size) := ⟨fun g hg => hg.elim (fun e => e ▸ h.d.lt) (fun e => h.d.own.lt e)⟩
  have HS := Kp.mk hs
  clear h hbx hs
  go_enter Try.func13, Try.ntmps13
  go_upto_region 7 with fail
  have T0 : Kp (Two w0 (w.alloc (.cells #[.int .i64 2, .int .i64 a, .int .i64 b, .int .i64 r] 23)).drew p bm lm rm q lv ns last) := ⟨H.out.below (Below.refl _ _).drew⟩
  have X0 : Kp ((w.alloc (.cells #[.int .i64 2, .int .i64 a, .int .i64 b, .int .i64 r] 23)).drew.heap[w.heap.size]? = some (.cells #[.int .i64 2, .int .i64 a, .int .i64 b, .int .i64 r] 23 (0, 0))) := ⟨HX.out⟩
  refine R_begin 999 (fun w9 => w9.cell? ⟨w.heap.size, 1, none⟩ = some (.int .i64 a) ∧ w9.cell? ⟨w.heap.size, 2, none⟩ = some (.int .i64 b) ∧ w9.cell? ⟨w.heap.size, 3, none⟩ = some (.int .i64 r)) (by kernel_rfl) ⟨blk_c X0.out 1, blk_c X0.out 2, blk_c X0.out 3⟩ (fun HP0 => ?_)
  refine R_pure 0 rfl (by kernel_rfl) HP0 ?_
  apply Exists.intro
  refine ⟨fun _ _ _ h => h, .inl ⟨by kernel_rfl, fun w9 h9 => ?_⟩, fun HP1 => ?_⟩
  · clear h9; go_simp; first | done | rfl
  clear HP0
  refine R_pure 1 rfl (by kernel_rfl) HP1 ?_
  apply Exists.intro
  refine ⟨fun _ _ _ h => h, .inl ⟨by kernel_rfl, fun w9 h9 => ?_⟩, fun HP2 => ?_⟩
  · clear h9; go_simp; first | done | rfl
  clear HP1
  refine R_take 2 rfl (by kernel_rfl) HP2 ?_
  apply Exists.intro
  refine ⟨fun _ _ _ h => h, .inl ⟨by kernel_rfl, fun w9 h9 => ?_⟩, fun HP3 => ?_⟩
  · obtain ⟨s1, s2, s3⟩ := h9; go_simp; first | done | rfl
  clear HP2
  refine R_pure 3 rfl (by kernel_rfl) HP3 ?_
  apply Exists.intro
  refine ⟨fun _ _ _ h => h, .inl ⟨by kernel_rfl, fun w9 h9 => ?_⟩, fun HP4 => ?_⟩
  · clear h9; go_simp; first | done | rfl
  clear HP3
  refine R_take 4 rfl (by kernel_rfl) HP4 ?_
  apply Exists.intro
  refine ⟨fun _ _ _ h => h, .inl ⟨by kernel_rfl, fun w9 h9 => ?_⟩, fun HP5 => ?_⟩
  · obtain ⟨s1, s2, s3⟩ := h9; go_simp; first | done | rfl
  clear HP4
  refine R_pure 5 rfl (by kernel_rfl) HP5 ?_
  apply Exists.intro
  refine ⟨fun _ _ _ h => h, .inl ⟨by kernel_rfl, fun w9 h9 => ?_⟩, fun HP6 => ?_⟩
  · clear h9; go_simp; first | done | rfl
  clear HP5
  refine R_take 6 rfl (by kernel_rfl) HP6 ?_
  apply Exists.intro
  refine ⟨fun _ _ _ h => h, .inl ⟨by kernel_rfl, fun w9 h9 => ?_⟩, fun HP7 => ?_⟩
  · obtain ⟨s1, s2, s3⟩ := h9; go_simp; first | done | rfl
  clear HP6
  refine R_pure 8 rfl (by kernel_rfl) HP7 ?_
  apply Exists.intro
  refine ⟨fun _ _ _ h => h, .inl ⟨by kernel_rfl, fun w9 h9 => ?_⟩, fun HP8 => ?_⟩
  · clear h9; go_simp; first | done | rfl
  clear HP7
  refine R_pure 9 rfl (by kernel_rfl) HP8 ?_
  apply Exists.intro
  refine ⟨fun _ _ _ h => h, .inl ⟨by kernel_rfl, fun w9 h9 => ?_⟩, fun HP9 => ?_⟩
  · clear h9; go_simp; first | done | rfl
  clear HP8
  refine R_take 10 rfl (by kernel_rfl) HP9 ?_
  apply Exists.intro
  refine ⟨fun _ _ _ h => h, .inl ⟨by kernel_rfl, fun w9 h9 => ?_⟩, fun HP10 => ?_⟩
  · obtain ⟨s1, s2, s3⟩ := h9; go_simp; first | done | rfl
  clear HP9
  refine R_pure 11 rfl (by kernel_rfl) HP10 ?_
  apply Exists.intro
  refine ⟨fun _ _ _ h => h, .inl ⟨by kernel_rfl, fun w9 h9 => ?_⟩, fun HP11 => ?_⟩
  · clear h9; go_simp; first | done | rfl
  clear HP10
  refine R_take 12 rfl (by kernel_rfl) HP11 ?_
  apply Exists.intro
  refine ⟨fun _ _ _ h => h, .inl ⟨by kernel_rfl, fun w9 h9 => ?_⟩, fun HP12 => ?_⟩
  · obtain ⟨s1, s2, s3⟩ := h9; go_simp; first | done | rfl
  clear HP11
  refine R_pure 13 rfl (by kernel_rfl) HP12 ?_
  apply Exists.intro
  refine ⟨fun _ _ _ h => h, .inl ⟨by kernel_rfl, fun w9 h9 => ?_⟩, fun HP13 => ?_⟩
  · clear h9; go_simp; first | done | rfl
  clear HP12
  refine R_take 14 rfl (by kernel_rfl) HP13 ?_
  apply Exists.intro
  refine ⟨fun _ _ _ h => h, .inl ⟨by kernel_rfl, fun w9 h9 => ?_⟩, fun HP14 => ?_⟩
  · obtain ⟨s1, s2, s3⟩ := h9; go_simp; first | done | rfl
  clear HP13
  refine R_all [7] (by kernel_rfl) ?_
  refine AllR.cons (i := 7) rfl (fun K9 HK9 => ?_) ?_
  · go_simp
    refine (watch_any _ p bm lm rm ns last r a b T0.out.g ht).mono ?_
    rintro e w5 ⟨rfl, c5, h5⟩
    have C5 := Kp.mk c5
    have H5 := Kp.mk h5
    have D5 := Kp.mk (T0.out.dturn c5)
    have X5 := Kp.mk (c5.at X0.out (fun hF => by have h1 := HZ.out _ hF; omega))
    clear h5 c5
    go_simp
    refine HK9.out _ _ (.inr ⟨blk_c X5.out 1, blk_c X5.out 2, blk_c X5.out 3⟩) (fun HP15 => ?_)
    clear HK9 K9
    refine R_all [15] (by kernel_rfl) ?_
    refine AllR.cons (i := 15) rfl (fun K9 HK9 => ?_) ?_
    · go_simp
      refine (dwatchG_any _ q lv (sn ns) r a b D5.out (by have := T0.out.g.ok.n1024; omega)).mono ?_
      rintro e w6 ⟨rfl, h6⟩
      rw [watchE_eq T0.out.g.ok]
      have H6 := Kp.mk h6
      have X6 := Kp.mk (h6.choose_spec.2.1.at X5.out (fun hF => by have h1 := HZD.out _ hF; omega))
      clear h6
      go_simp
      refine HK9.out _ _ (.inr ⟨blk_c X6.out 1, blk_c X6.out 2, blk_c X6.out 3⟩) (fun HP16 => ?_)
      clear HK9 K9
      refine R_pure 16 rfl (by kernel_rfl) HP16 ?_
      apply Exists.intro
      refine ⟨fun _ _ _ h => h, .inl ⟨by kernel_rfl, fun w9 h9 => ?_⟩, fun HP17 => ?_⟩
      · clear h9; go_simp; first | done | rfl
      clear HP16
      refine R_pure 17 rfl (by kernel_rfl) HP17 ?_
      apply Exists.intro
      refine ⟨fun _ _ _ h => h, .inl ⟨by kernel_rfl, fun w9 h9 => ?_⟩, fun HP18 => ?_⟩
      · clear h9; go_simp; first | done | rfl
      clear HP17
      refine R_done (by kernel_rfl) ?_
      go_wp2
      go_ret
      refine ⟨rfl, ?_⟩
      rcases H5.out with ⟨e0, h5⟩ | ⟨e0, h5⟩
      · have e1 : nsOf ns last ⟨2, a, b, r⟩ = ns ∧ lastOf ns last ⟨2, a, b, r⟩ = last := by simp [nsOf, lastOf, e0]
        rw [e1.1, e1.2]
        exact T0.out.step C5.out h5 H6.out (by rw [watchL_eq T0.out.g.ok, if_neg e0])
      · have e1 : nsOf ns last ⟨2, a, b, r⟩ = watchN ns last r a b ∧ lastOf ns last ⟨2, a, b, r⟩ = last + 1 := by simp [nsOf, lastOf, e0]
        rw [e1.1, e1.2]
        exact T0.out.step C5.out h5 H6.out (by rw [watchL_eq T0.out.g.ok, if_pos e0])
    exact AllR.nil
  exact AllR.nil
set_option maxRecDepth 100000 in
set_option maxHeartbeats 8000000 in
theorem step_3 (hs : SortC) (w0 w : World) (p bm lm rm q : Nat) (lv : Value) (ns : List NB) (last a b r : Int) (h : Two w0 w p bm lm rm q lv ns last) (ht : last ≤ 900000000000000000) (hr : -9223372036854775808 ≤ r ∧ r ≤ 9223372036854775807) :
    Calls Try.prog 13 #[.pointer (some ⟨p, 0, none⟩), .pointer (some ⟨q, 0, none⟩), .agg #[.int .i64 3, .int .i64 a, .int .i64 b, .int .i64 r]] w (StepPost w0 p bm lm rm q (nsOf ns last ⟨3, a, b, r⟩) (lastOf ns last ⟨3, a, b, r⟩)) := by
  have hbx : Below w.heap.size w (w.alloc (.cells #[.int .i64 3, .int .i64 a, .int .i64 b, .int .i64 r] 23)) := (Below.refl _ _).alloc (Nat.le_refl _) _
  have H := Kp.mk (h.below hbx)
  have HX := Kp.mk (blk_new w (.cells #[.int .i64 3, .int .i64 a, .int .i64 b, .int .i64 r] 23))
  have HZ : Kp (∀ g, FG p bm lm rm g → g < w.heap.size) := ⟨h.g.g.lt⟩
  have HZD : Kp (∀ g, FD q lv g → g < w.heap.size) := ⟨fun g hg => hg.elim (fun e => e ▸ h.d.lt) (fun e => h.d.own.lt e)⟩
  have HS := Kp.mk hs
  clear h hbx hs
  go_enter Try.func13, Try.ntmps13
  have f3 := blk_c HX.out 3
  have fl := lt_of_block HX.out
  go_wp2_with fail
  refine (leave_any _ p bm lm rm ns last r H.out.g ht hr).mono ?_
  rintro e w3 ⟨rfl, h3⟩
  have H3 := Kp.mk h3
  have X3 : Kp (w3.heap[w.heap.size]? = some (.cells #[.int .i64 3, .int .i64 a, .int .i64 b, .int .i64 r] 23 (0, 0))) := ⟨h3.1.at HX.out (fun hF => by have h1 := HZ.out _ hF; omega)⟩
  have DD3 := Kp.mk (H.out.dturn h3.1)
  clear h3
  obtain ⟨B, hB⟩ : ∃ B, B = findB ns r := ⟨_, rfl⟩
  obtain ⟨E, hE⟩ : ∃ E, E = findE ns r := ⟨_, rfl⟩
  rw [← hB, ← hE]
  have HBe := Kp.mk hB
  have HEe := Kp.mk hE
  have f33 := blk_c (blk_alloc X3.out (.cells #[.int .i64 B.a, .int .i64 B.b, .int .i64 B.r] 48)) 3
  have fl3 := lt_of_block X3.out
  have hbA : Below w3.heap.size w3 (w3.alloc (.cells #[.int .i64 B.a, .int .i64 B.b, .int .i64 B.r] 48)) := (Below.refl _ _).alloc (Nat.le_refl _) _
  have D3 := Kp.mk (DD3.out.below hbA)
  have HbA := Kp.mk hbA
  have y3 := blk_new w3 (.cells #[.int .i64 B.a, .int .i64 B.b, .int .i64 B.r] 48)
  have Y3 := Kp.mk y3
  have hzl : w.heap.size < w3.heap.size := by have := fl3; omega
  have OKK := Kp.mk H.out.g.ok
  clear hB hE hbA y3 f3
  go_wp2_with fail
  refine (dleave_any _ q lv (sn ns) r D3.out (by have := H.out.g.ok.n1024; omega)).mono ?_
  rintro e w4 ⟨rfl, h4⟩
  rw [findE_eq OKK.out, findB_eq OKK.out, ← HBe.out, ← HEe.out]
  have H4 := Kp.mk h4
  have Y4 := Kp.mk (h4.choose_spec.2.1.at Y3.out (fun hF => by have h1 := HZD.out _ hF; omega))
  clear h4
  have y4 := Y4.out
  obtain ⟨b0, b1, b2⟩ : (w4.alloc (.cells #[.int .i64 B.a, .int .i64 B.b, .int .i64 B.r] 48)).cell? ⟨w3.heap.size, 0, none⟩ = some (.int .i64 B.a) ∧ (w4.alloc (.cells #[.int .i64 B.a, .int .i64 B.b, .int .i64 B.r] 48)).cell? ⟨w3.heap.size, 1, none⟩ = some (.int .i64 B.b) ∧ (w4.alloc (.cells #[.int .i64 B.a, .int .i64 B.b, .int .i64 B.r] 48)).cell? ⟨w3.heap.size, 2, none⟩ = some (.int .i64 B.r) := ⟨blk_c (blk_alloc y4 _) 0, blk_c (blk_alloc y4 _) 1, blk_c (blk_alloc y4 _) 2⟩
  have b3 := lt_of_block y4
  have b4 : w3.heap.size ≠ w4.heap.size := by omega
  have e1 : (B.a == B.a) = true := by simp
  have e2 : (B.b == B.b) = true := by simp
  have e3 : (B.r == B.r) = true := by simp
  have e4 : (E == E) = true := by simp
  clear y4
  go_wp2
  go_ret
  refine ⟨rfl, ?_⟩
  have hb9 : Below w4.heap.size w4 (w4.alloc (.cells #[.int .i64 B.a, .int .i64 B.b, .int .i64 B.r] 48)) := (Below.refl _ _).alloc (Nat.le_refl _) _
  have c3' : Chg (FG p bm lm rm) (w.alloc (.cells #[.int .i64 3, .int .i64 a, .int .i64 b, .int .i64 r] 23)) (w3.alloc (.cells #[.int .i64 B.a, .int .i64 B.b, .int .i64 B.r] 48)) := H3.out.1.alloc _
  rcases H3.out.2 with ⟨e0, h5⟩ | ⟨e0, h5⟩
  · have e9 : nsOf ns last ⟨3, a, b, r⟩ = ns ∧ lastOf ns last ⟨3, a, b, r⟩ = last := by simp [nsOf, lastOf, e0]
    rw [e9.1, e9.2]
    obtain ⟨lv', h9⟩ := H.out.step c3' (h5.below HbA.out) H4.out (by rw [leaveL_eq H.out.g.ok, if_neg e0])
    exact ⟨lv', h9.below hb9⟩
  · have e9 : nsOf ns last ⟨3, a, b, r⟩ = leaveN ns r ∧ lastOf ns last ⟨3, a, b, r⟩ = last := by simp [nsOf, lastOf, e0]
    rw [e9.1, e9.2]
    obtain ⟨lv', h9⟩ := H.out.step c3' (h5.below HbA.out) H4.out (by rw [leaveL_eq H.out.g.ok, if_pos e0])
    exact ⟨lv', h9.below hb9⟩
set_option maxRecDepth 100000 in
set_option maxHeartbeats 8000000 in
theorem step_4 (hs : SortC) (w0 w : World) (p bm lm rm q : Nat) (lv : Value) (ns : List NB) (last a b r : Int) (h : Two w0 w p bm lm rm q lv ns last) (ht : last ≤ 900000000000000000) (hr : -9223372036854775808 ≤ r ∧ r ≤ 9223372036854775807) :
    Calls Try.prog 13 #[.pointer (some ⟨p, 0, none⟩), .pointer (some ⟨q, 0, none⟩), .agg #[.int .i64 4, .int .i64 a, .int .i64 b, .int .i64 r]] w (StepPost w0 p bm lm rm q (nsOf ns last ⟨4, a, b, r⟩) (lastOf ns last ⟨4, a, b, r⟩)) := by
  have hbx : Below w.heap.size w (w.alloc (.cells #[.int .i64 4, .int .i64 a, .int .i64 b, .int .i64 r] 23)) := (Below.refl _ _).alloc (Nat.le_refl _) _
  have H := Kp.mk (h.below hbx)
  have HX := Kp.mk (blk_new w (.cells #[.int .i64 4, .int .i64 a, .int .i64 b, .int .i64 r] 23))
  have HZ : Kp (∀ g, FG p bm lm rm g → g < w.heap.size) := ⟨h.g.g.lt⟩
  have HZD : Kp (∀ g, FD q lv g → g < w.heap.size) := ⟨fun g hg => hg.elim (fun e => e ▸ h.d.lt) (fun e => h.d.own.lt e)⟩
  have HS := Kp.mk hs
  clear h hbx hs
  go_enter Try.func13, Try.ntmps13
  have f3 := blk_c HX.out 3
  have fl := lt_of_block HX.out
  go_wp2_with fail
  refine (find_any _ p bm lm rm ns last r H.out.g ht hr).mono ?_
  rintro e w3 ⟨rfl, h3⟩
  have H3 := Kp.mk h3
  have X3 : Kp (w3.heap[w.heap.size]? = some (.cells #[.int .i64 4, .int .i64 a, .int .i64 b, .int .i64 r] 23 (0, 0))) := ⟨(h3.block _ (lt_of_block HX.out)).trans HX.out⟩
  have DD3 := Kp.mk (H.out.d.below h3)
  clear h3
  obtain ⟨B, hB⟩ : ∃ B, B = findB ns r := ⟨_, rfl⟩
  obtain ⟨E, hE⟩ : ∃ E, E = findE ns r := ⟨_, rfl⟩
  rw [← hB, ← hE]
  have HBe := Kp.mk hB
  have HEe := Kp.mk hE
  have f33 := blk_c (blk_alloc X3.out (.cells #[.int .i64 B.a, .int .i64 B.b, .int .i64 B.r] 48)) 3
  have fl3 := lt_of_block X3.out
  have hbA : Below w3.heap.size w3 (w3.alloc (.cells #[.int .i64 B.a, .int .i64 B.b, .int .i64 B.r] 48)) := (Below.refl _ _).alloc (Nat.le_refl _) _
  have D3 := Kp.mk (DD3.out.below hbA)
  have HbA := Kp.mk hbA
  have y3 := blk_new w3 (.cells #[.int .i64 B.a, .int .i64 B.b, .int .i64 B.r] 48)
  have Y3 := Kp.mk y3
  have hzl : w.heap.size < w3.heap.size := by have := fl3; omega
  have OKK := Kp.mk H.out.g.ok
  clear hB hE hbA y3 f3
  go_wp2_with fail
  refine (dfind_any _ q lv (sn ns) r D3.out (by have := H.out.g.ok.n1024; omega)).mono ?_
  rintro e w4 ⟨rfl, h4⟩
  rw [findE_eq OKK.out, findB_eq OKK.out, ← HBe.out, ← HEe.out]
  have H4 := Kp.mk h4
  have Y4 := Kp.mk ((h4.block _ (lt_of_block Y3.out)).trans Y3.out)
  clear h4
  have y4 := Y4.out
  obtain ⟨b0, b1, b2⟩ : (w4.alloc (.cells #[.int .i64 B.a, .int .i64 B.b, .int .i64 B.r] 48)).cell? ⟨w3.heap.size, 0, none⟩ = some (.int .i64 B.a) ∧ (w4.alloc (.cells #[.int .i64 B.a, .int .i64 B.b, .int .i64 B.r] 48)).cell? ⟨w3.heap.size, 1, none⟩ = some (.int .i64 B.b) ∧ (w4.alloc (.cells #[.int .i64 B.a, .int .i64 B.b, .int .i64 B.r] 48)).cell? ⟨w3.heap.size, 2, none⟩ = some (.int .i64 B.r) := ⟨blk_c (blk_alloc y4 _) 0, blk_c (blk_alloc y4 _) 1, blk_c (blk_alloc y4 _) 2⟩
  have b3 := lt_of_block y4
  have b4 : w3.heap.size ≠ w4.heap.size := by omega
  have e1 : (B.a == B.a) = true := by simp
  have e2 : (B.b == B.b) = true := by simp
  have e3 : (B.r == B.r) = true := by simp
  have e4 : (E == E) = true := by simp
  clear y4
  go_wp2
  go_ret
  refine ⟨rfl, ?_⟩
  have hb9 : Below w4.heap.size w4 (w4.alloc (.cells #[.int .i64 B.a, .int .i64 B.b, .int .i64 B.r] 48)) := (Below.refl _ _).alloc (Nat.le_refl _) _
  have e9 : nsOf ns last ⟨4, a, b, r⟩ = ns ∧ lastOf ns last ⟨4, a, b, r⟩ = last := by simp [nsOf, lastOf]
  rw [e9.1, e9.2]
  exact ⟨lv, (((H.out.below H3.out).below HbA.out).below H4.out).below hb9⟩
set_option maxRecDepth 100000 in
set_option maxHeartbeats 8000000 in
theorem step_5 (hs : SortC) (w0 w : World) (p bm lm rm q : Nat) (lv : Value) (ns : List NB) (last a b r : Int) (h : Two w0 w p bm lm rm q lv ns last) (ht : last ≤ 900000000000000000) (_hr : -9223372036854775808 ≤ r ∧ r ≤ 9223372036854775807) :
    Calls Try.prog 13 #[.pointer (some ⟨p, 0, none⟩), .pointer (some ⟨q, 0, none⟩), .agg #[.int .i64 5, .int .i64 a, .int .i64 b, .int .i64 r]] w (StepPost w0 p bm lm rm q (nsOf ns last ⟨5, a, b, r⟩) (lastOf ns last ⟨5, a, b, r⟩)) := by
  have hbx : Below w.heap.size w (w.alloc (.cells #[.int .i64 5, .int .i64 a, .int .i64 b, .int .i64 r] 23)) := (Below.refl _ _).alloc (Nat.le_refl _) _
  have H := Kp.mk (h.below hbx)
  have HX := Kp.mk (blk_new w (.cells #[.int .i64 5, .int .i64 a, .int .i64 b, .int .i64 r] 23))
  have HZ : Kp (∀ g, FG p bm lm rm g → g < w.heap.size) := ⟨h.g.g.lt⟩
  have HZD : Kp (∀ g, FD q lv g → g < w.heap.size) := ⟨fun g hg => hg.elim (fun e => e ▸ h.d.lt) (fun e => h.d.own.lt e)⟩
  have HS := Kp.mk hs
  clear h hbx hs
  go_enter Try.func13, Try.ntmps13
  have f1 := blk_c HX.out 1
  have fl := lt_of_block HX.out
  cases hp : decide (IsPid a)
  · have HN : Kp (nsOf ns last ⟨5, a, b, r⟩ = ns ∧ lastOf ns last ⟨5, a, b, r⟩ = last) := ⟨by have := of_decide_eq_false hp; simp [nsOf, lastOf, this]⟩
    have hsn : Src (w.alloc (.cells #[.int .i64 5, .int .i64 a, .int .i64 b, .int .i64 r] 23)) eBd none 0 [] := (Own.nil _ 48 _).src rfl
    go_wp2_with (first
      | (go_at_call 19; refine (end_bad _ p a hp).mono ?_; rintro e w3 ⟨rfl, rfl⟩)
      | (go_at_call 39; refine (dend_bad _ q a hp).mono ?_; rintro e w4 ⟨rfl, rfl⟩)
      | (go_at_call 14; refine (bonds_eq _ [] none none 0 0 hsn hsn (by simp)).mono ?_; rintro e w5 ⟨rfl, hb5⟩; have T5 := Kp.mk (H.out.below hb5); clear hb5))
    refine wp_loop_rounds 1 ?_
    rw [rounds_succ]
    go_wp2
    go_ret
    refine ⟨rfl, lv, ?_⟩
    rw [HN.out.1, HN.out.2]
    exact T5.out
  · have HN : Kp (nsOf ns last ⟨5, a, b, r⟩ = leftN a ns ∧ lastOf ns last ⟨5, a, b, r⟩ = last) := ⟨by have := of_decide_eq_true hp; simp [nsOf, lastOf, this]⟩
    have OKK := Kp.mk H.out.g.ok
    go_wp2_with (first
      | (go_at_call 19; refine (end_any HS.out _ p bm lm rm ns last a H.out.g (by omega) hp).mono ?_; rintro e w3 ⟨v, rfl, ho3, hf3, hc3, hg3⟩; have DD3 := Kp.mk (H.out.dturn hc3); obtain ⟨A3, c3, hv3, _⟩ := ho3.shape; subst hv3; have O3 := Kp.mk ho3; have F3 := Kp.mk hf3; have C3 := Kp.mk hc3; have G3 := Kp.mk hg3; have X3 := Kp.mk (hc3.at HX.out (fun hF => by have h1 := HZ.out _ hF; omega)); have f3 := blk_c X3.out 1; have l3 := lt_of_block X3.out; clear ho3 hf3 hc3 hg3)
      | (go_at_call 39; refine (dend_any _ q lv (sn ns) a DD3.out (by have := OKK.out.n1024; omega) hp).mono ?_; rintro e w4 ⟨v4, rfl, ho4, hf4, hd4⟩; obtain ⟨A4, c4, hv4, _⟩ := ho4.shape; subst hv4; have O4 := Kp.mk ho4; have F4 := Kp.mk hf4; have D4 := Kp.mk hd4; have O34 := Kp.mk (O3.out.frame hd4.choose_spec.2.1 (fun g hg hF => by have h1 := HZD.out _ hF; have h2 := F3.out _ hg; simp at h2; omega)); clear ho4 hf4 hd4)
      | (go_at_call 14; refine (bonds_eq _ (told a (sn ns)) A3 A4 c3 c4 (O34.out.src rfl) (O4.out.src rfl) (by have := told_len a (sn ns); have := OKK.out.n1024; omega)).mono ?_; rintro e w5 ⟨rfl, hb5⟩; have B5 := Kp.mk hb5; have O5 := Kp.mk (O34.out.below hb5); clear hb5))
    obtain ⟨lv', hd1, hd2, hd3⟩ := D4.out
    rw [leftL_eq] at hd1
    have hT := H.out.step' C3.out G3.out hd1 hd2 hd3
    have HD3 := Kp.mk hd3
    have HO3 := Kp.mk (fun g hg => O3.out.lt (g := g) hg)
    have T5 := Kp.mk (hT.below B5.out)
    clear hT hd1 hd2 hd3
    obtain ⟨tl, htl⟩ : ∃ tl, tl = (told a (sn ns)).length := ⟨_, rfl⟩
    have HTL := Kp.mk htl
    have htb : tl ≤ 1024 := by have := told_len a (sn ns); have := OKK.out.n1024; omega
    rw [← htl] at O5 F3 HO3 ⊢
    obtain ⟨Z, hZ⟩ : ∃ Z, Z = told a (sn ns) := ⟨_, rfl⟩
    rw [← hZ] at O5 HTL
    have ap3 : Kp (∀ g, (Value.slice A3 tl c3).ownBlock = some g → ¬ FG p bm lm rm g ∧ ¬ FD q lv' g) := ⟨fun g hg => by
      have h1 := F3.out g hg
      rw [World.size_alloc] at h1
      refine ⟨fun h => by have := HZ.out _ h; omega, fun h => ?_⟩
      rcases h with rfl | h
      · have := HZD.out g (.inl rfl); omega
      · rcases HD3.out g h with h2 | h2
        · have := HZD.out g (.inr h2); omega
        · have := HO3.out g hg; omega⟩
    have ap4 : Kp (∀ g, (Value.slice A3 tl c3).ownBlock = some g → w0.heap.size ≤ g) := ⟨fun g hg => by
      have h1 := F3.out g hg
      have h2 := H.out.bel.size
      omega⟩
    clear htl hZ
    go_loopw [20, 146] (fun _ i wr => ∃ (k : Nat) (ys : List Bd), k ≤ tl ∧ i = .int .i64 k ∧ ys.length = tl ∧ Kp (Own wr 48 eBd (.slice A3 tl c3) ys) ∧ Kp (Two w0 wr p bm lm rm q lv' (leftN a ns) last)) (fun _ i _ => tl - (intOf i).toNat)
    case atStart => exact ⟨0, Z, Nat.zero_le _, rfl, HTL.out.symm, O5, T5⟩
    case round =>
      obtain ⟨k, ys, hk, rfl, hyl, HO, HT⟩ := hrel
      by_cases hlt : k < tl
      · obtain ⟨A9, c9, hv9, _, _, h0, h1⟩ := HO.out.shape
        obtain ⟨g, rfl⟩ : ∃ g, A3 = some ⟨g, 0, none⟩ := by
          injection hv9 with e1 _ _
          subst e1
          cases A3 with
          | none => have := (h0 rfl).1; rw [this] at hyl; simp at hyl; omega
          | some y => obtain ⟨g, rfl⟩ := h1 y rfl; exact ⟨g, rfl⟩
        clear hv9 h0 h1
        have hky : k < ys.length := by omega
        obtain ⟨q0, q1, q2⟩ := HO.out.bd k hky
        obtain ⟨cur, hcur⟩ := HO.out.blk
        have h1 := blk_set hcur (k * 3) (.int .i64 99)
        have h2 := blk_set h1 (k * 3 + 1) (.int .i64 0)
        have f0 := HO.out.frozen (k * 3)
        have f1 := blk_f h1 (k * 3 + 1)
        have f2 := blk_f h2 (k * 3 + 2)
        have z1 : (wr.setCell ⟨g, k * 3, none⟩ (.int .i64 99)).cell? ⟨g, k * 3 + 1, none⟩ = some (.int .i64 ys[k].b) := by
          rw [World.cell?_setCell_other _ _ _ _ (by simp)]; exact q1
        have z2 : ((wr.setCell ⟨g, k * 3, none⟩ (.int .i64 99)).setCell ⟨g, k * 3 + 1, none⟩ (.int .i64 0)).cell? ⟨g, k * 3 + 2, none⟩ = some (.int .i64 ys[k].r) := by
          rw [World.cell?_setCell_other _ _ _ _ (by simp), World.cell?_setCell_other _ _ _ _ (by simp)]; exact q2
        have HP := Kp.mk (HO.out.put3 hyl.symm k hky ⟨99, 0, 0⟩)
        have HC := Kp.mk (((chg_cell wr g (k * 3) (.int .i64 99)).then (chg_cell _ g (k * 3 + 1) (.int .i64 0))).then (chg_cell _ g (k * 3 + 2) (.int .i64 0)))
        have k0 : (0 : Int) ≤ (k : Int) := by omega
        have k1 : (k : Int) < (tl : Int) := by omega
        obtain ⟨y1, hy1⟩ : ∃ y, y = ys[k].a := ⟨_, rfl⟩
        obtain ⟨y2, hy2⟩ : ∃ y, y = ys[k].b := ⟨_, rfl⟩
        obtain ⟨y3, hy3⟩ : ∃ y, y = ys[k].r := ⟨_, rfl⟩
        rw [← hy1] at q0
        rw [← hy2] at q1 z1
        rw [← hy3] at q2 z2
        have HYL := Kp.mk hyl
        clear hcur h1 h2 hy1 hy2 hy3 hyl
        go_wp2
        go_roundw
        case rel => exact ⟨k + 1, ys.set k ⟨99, 0, 0⟩, by omega, by go_num, by rw [List.length_set]; exact HYL.out, HP, ⟨HT.out.frame HC.out (fun j hj e => (ap3.out g rfl).1 (e ▸ hj)) (fun j hj e => (ap3.out g rfl).2 (e ▸ hj)) (fun j e => by rw [e]; exact ap4.out g rfl)⟩⟩
        case measure => simp [intOf]; omega
      · obtain rfl : k = tl := by omega
        go_wp2
        go_ret
        refine ⟨rfl, lv', ?_⟩
        rw [HN.out.1, HN.out.2]
        exact HT.out
set_option maxRecDepth 100000 in
set_option maxHeartbeats 8000000 in
theorem step_no (hs : SortC) (w0 w : World) (p bm lm rm q : Nat) (lv : Value) (ns : List NB) (last a b r : Int) (kd : Int) (e0 : (kd == 0) = false) (e1 : (kd == 1) = false) (e2 : (kd == 2) = false) (e3 : (kd == 3) = false) (e4 : (kd == 4) = false) (e5 : (kd == 5) = false) (h : Two w0 w p bm lm rm q lv ns last) (_ht : last ≤ 900000000000000000) (_hr : -9223372036854775808 ≤ r ∧ r ≤ 9223372036854775807) :
    Calls Try.prog 13 #[.pointer (some ⟨p, 0, none⟩), .pointer (some ⟨q, 0, none⟩), .agg #[.int .i64 kd, .int .i64 a, .int .i64 b, .int .i64 r]] w (StepPost w0 p bm lm rm q (nsOf ns last ⟨kd, a, b, r⟩) (lastOf ns last ⟨kd, a, b, r⟩)) := by
  have hbx : Below w.heap.size w (w.alloc (.cells #[.int .i64 kd, .int .i64 a, .int .i64 b, .int .i64 r] 23)) := (Below.refl _ _).alloc (Nat.le_refl _) _
  have H := Kp.mk (h.below hbx)
  have HX := Kp.mk (blk_new w (.cells #[.int .i64 kd, .int .i64 a, .int .i64 b, .int .i64 r] 23))
  have HZ : Kp (∀ g, FG p bm lm rm g → g < w.heap.size) := ⟨h.g.g.lt⟩
  have HZD : Kp (∀ g, FD q lv g → g < w.heap.size) := ⟨fun g hg => hg.elim (fun e => e ▸ h.d.lt) (fun e => h.d.own.lt e)⟩
  have HS := Kp.mk hs
  clear h hbx hs
  go_enter Try.func13, Try.ntmps13
  have HN : Kp (nsOf ns last ⟨kd, a, b, r⟩ = ns ∧ lastOf ns last ⟨kd, a, b, r⟩ = last) := ⟨by simp at e0 e1 e2 e3 e4 e5; simp [nsOf, lastOf, e0, e1, e2, e3, e5]⟩
  go_wp2
  go_ret
  refine ⟨rfl, lv, ?_⟩
  rw [HN.out.1, HN.out.2]
  exact H.out
end Go.Proofs.Ytlbbheopoflmjaa
