/- The reference's stack in memory; what New, last, Size, Get, Set, Call of parleyref21 answer; bounds stand in each statement. -/
import Derived.Test.YthdfmopbihpcoaaX
namespace Go.Proofs.Ythdfmopbihpcoaa
open Go.RowKit

/-- Blocks that may be written: from b on, but for those from lo to hi. -/
structure Bd where
  b : Nat
  lo : Nat
  hi : Nat
abbrev Bd.In (B : Bd) (g : Nat) : Prop := B.b ≤ g ∧ ¬ (B.lo ≤ g ∧ g < B.hi)
abbrev Bd.Ok (B : Bd) (w : World) : Prop := B.b ≤ w.heap.size ∧ B.hi ≤ w.heap.size
abbrev Bd.At (B : Bd) (w : World) (g : Nat) : Prop := B.In g ∧ B.hi ≤ w.heap.size
variable {B : Bd}
/-- All else is as it was. -/
structure Bel (B : Bd) (w w' : World) : Prop where
  out : Chg B.In w w'
theorem Bel.refl (w : World) : Bel B w w := ⟨Chg.refl _ _⟩
theorem Bel.trans {a b c : World} (h : Bel B a b) (k : Bel B b c) : Bel B a c := ⟨h.out.then k.out⟩
theorem Bel.alloc {a w : World} (h : Bel B a w) (_ : B.Ok w) (o : Obj) : Bel B a (w.alloc o) := ⟨h.out.alloc o⟩
theorem Bel.drew {a w : World} (h : Bel B a w) : Bel B a w.drew := ⟨h.out.drew⟩
theorem Bel.size {a w : World} (h : Bel B a w) : a.heap.size ≤ w.heap.size := h.out.size
theorem bel {a w : World} (h : Below a.heap.size a w) (_ : B.Ok a) : Bel B a w := ⟨Chg.of_below h _⟩
theorem Bd.Ok.up {a w : World} (h : B.Ok a) (hs : a.heap.size ≤ w.heap.size) : B.Ok w := ⟨Nat.le_trans h.1 hs, Nat.le_trans h.2 hs⟩
/-- Blocks of these types, from B on. -/
def Ty (B : Bd) (L : List Nat) (w : World) (g : Nat) : Prop := B.In g ∧ ∃ cur T, w.heap[g]? = some (.cells cur T (0, 0)) ∧ T ∈ L
theorem Chg.ty {L : List Nat} {a b c : World} (h : Chg (Ty B L a) a b) (k : Chg (Ty B L b) b c) : Chg (Ty B L a) a c := by
  refine h.trans k fun n hn ⟨hB, cur, T, h1, h2⟩ => ?_
  by_cases hF : Ty B L a n
  · exact hF
  · exact ⟨hB, cur, T, by rw [← h.block n hn hF]; exact h1, h2⟩
theorem Chg.tyL {L M : List Nat} {a b : World} (h : Chg (Ty B L a) a b) (hL : ∀ T ∈ L, T ∈ M) : Chg (Ty B M a) a b := h.mono fun _ _ ⟨h1, cur, T, h2, h3⟩ => ⟨h1, cur, T, h2, hL T h3⟩
theorem Own.ty {α : Type} {E : El α} {T : Nat} {v : Value} {l : List α} {L : List Nat} {a b : World} (h : Own a T E v l) (hT : T ∉ L) (hc : Chg (Ty B L a) a b) : Own b T E v l :=
  h.frame hc fun g hg ⟨_, cur, T', h1, h2⟩ => by
    obtain ⟨cur2, h3⟩ := h.blk' hg
    rw [h3] at h1
    cases h1
    exact hT h2
theorem blk_ty {p : Nat} {c : Array Value} {T : Nat} {L : List Nat} {a b : World} (h : a.heap[p]? = some (.cells c T (0, 0))) (hT : T ∉ L) (hc : Chg (Ty B L a) a b) : b.heap[p]? = some (.cells c T (0, 0)) :=
  hc.at h fun ⟨_, cur, T', h1, h2⟩ => by rw [h] at h1; cases h1; exact hT h2
theorem Own.isTy {α : Type} {E : El α} {T : Nat} {v : Value} {l : List α} {L : List Nat} {w : World} (h : Own w T E v l) (hT : T ∈ L) (hB : ∀ g, v.ownBlock = some g → B.In g) (g : Nat) (hg : v.ownBlock = some g) : Ty B L w g := by
  obtain ⟨cur, hcur⟩ := h.blk' hg
  exact ⟨hB g hg, cur, T, hcur, hT⟩
/-- Of the program's stack. -/
abbrev TS : List Nat := [60, 54, 57]
/-- Of the reference's. -/
abbrev TR : List Nat := [69, 63, 66]
theorem IsSt.ty {w w' : World} {p : Nat} {fv sv : Value} {s : StM} {rs : List Rec} (h : IsSt w p fv sv s rs) {L : List Nat} (hL : 60 ∉ L ∧ 54 ∉ L ∧ 57 ∉ L) (hc : Chg (Ty B L w) w w') : IsSt w' p fv sv s rs :=
  ⟨blk_ty h.blk hL.1 hc, h.x16, h.f.ty hL.2.1 hc, h.sl.ty hL.2.2 hc, h.cut⟩
theorem IsSt.isTy {w : World} {p : Nat} {fv sv : Value} {s : StM} {rs : List Rec} (h : IsSt w p fv sv s rs) (hB : ∀ g, FS p fv sv g → B.In g) (g : Nat) (hg : FS p fv sv g) : Ty B TS w g := by
  refine ⟨hB g hg, ?_⟩
  rcases hg with rfl | hg | hg
  · exact ⟨_, _, h.blk, by decide⟩
  · obtain ⟨cur, hcur⟩ := h.f.blk' hg; exact ⟨cur, _, hcur, by decide⟩
  · obtain ⟨cur, hcur⟩ := h.sl.blk' hg; exact ⟨cur, _, hcur, by decide⟩

def eRC : El Cl := ⟨2, fun c => [.bool c.on, .int .u64 c.w], fun _ => rfl, fun _ u h => by simp at h; rcases h with rfl | rfl <;> rfl, by decide⟩
structure RR where
  rt : Int
  op : Bool
  A : Option Addr
  n : Nat
  c : Nat
def eRR : El RR := ⟨3, fun r => [.int .i64 r.rt, .bool r.op, .slice r.A r.n r.c], fun _ => rfl, fun _ u h => by simp at h; rcases h with rfl | rfl | rfl <;> rfl, by decide⟩
theorem T64 : SlT Try.prog 64 63 eRR 40 := SlT.mk' (k := 3) (z := .agg #[.int .i64 0, .bool false, .slice none 0 0]) Try.underlying64 (by kernel_rfl) rfl rfl
theorem T61 : SlT Try.prog 61 66 eRC 16 := SlT.mk' (k := 2) (z := .agg #[.bool false, .int .u64 0]) Try.underlying61 (by kernel_rfl) rfl rfl
def RR.v (r : RR) : Value := .slice r.A r.n r.c
def StR (xs : List Cl) (fv : Value) : Array Value := (eRC.flat xs ++ [fv]).toArray
structure IsRf (B : Bd) (w : World) (q : Nat) (fv : Value) (s : StM) (rr : List RR) : Prop where
  blk : w.heap[q]? = some (.cells (StR s.x fv) 69 (0, 0))
  x16 : s.x.length = 16
  f : Own w 63 eRR fv rr
  len : rr.length = s.fs.length
  each : ∀ (k : Nat) (r : RR) (f : Fr), rr[k]? = some r → s.fs[k]? = some f → r.rt = f.rt ∧ r.op = f.y.isSome ∧ Own w 66 eRC r.v f.cl
  hq : B.At w q
  hf : ∀ g, fv.ownBlock = some g → B.In g
  hr : ∀ (k : Nat) (r : RR) (g : Nat), rr[k]? = some r → r.v.ownBlock = some g → B.In g
  sep : ∀ (i j : Nat) (a b : RR) (g : Nat), rr[i]? = some a → rr[j]? = some b → a.v.ownBlock = some g → b.v.ownBlock = some g → i = j
section
variable {w w' : World} {q : Nat} {fv : Value} {s : StM} {rr : List RR}
theorem IsRf.at_ (h : IsRf B w q fv s rr) (k : Nat) (r : RR) (hr : rr[k]? = some r) : ∃ f, s.fs[k]? = some f ∧ r.rt = f.rt ∧ r.op = f.y.isSome ∧ Own w 66 eRC r.v f.cl := by
  have hk : k < s.fs.length := by rw [← h.len]; exact (List.getElem?_eq_some_iff.1 hr).1
  exact ⟨s.fs[k], List.getElem?_eq_getElem hk, h.each k r _ hr (List.getElem?_eq_getElem hk)⟩
theorem IsRf.frame (h : IsRf B w q fv s rr) {F : Nat → Prop} (hc : Chg F w w') (hF : ∀ g, Ty B TR w g → ¬ F g) : IsRf B w' q fv s rr :=
  ⟨hc.at h.blk (hF q ⟨h.hq.1, _, _, h.blk, by decide⟩), h.x16, h.f.frame hc (fun g hg => hF g (h.f.isTy (by decide) h.hf g hg)), h.len, fun k r f hr hf => by
    obtain ⟨h1, h2, h3⟩ := h.each k r f hr hf
    exact ⟨h1, h2, h3.frame hc fun g hg => hF g (h3.isTy (by decide) (fun g hg => h.hr k r g hr hg) g hg)⟩, ⟨h.hq.1, Nat.le_trans h.hq.2 hc.size⟩, h.hf, h.hr, h.sep⟩
theorem IsRf.ty (h : IsRf B w q fv s rr) {L : List Nat} (hL : 69 ∉ L ∧ 63 ∉ L ∧ 66 ∉ L) (hc : Chg (Ty B L w) w w') : IsRf B w' q fv s rr :=
  h.frame hc fun g ⟨_, cur, T, h1, h2⟩ ⟨_, cur', T', h3, h4⟩ => by
    rw [h1] at h3
    cases h3
    simp at h2
    rcases h2 with rfl | rfl | rfl
    · exact hL.1 h4
    · exact hL.2.1 h4
    · exact hL.2.2 h4
theorem IsRf.below (h : IsRf B w q fv s rr) (hc : Below w.heap.size w w') : IsRf B w' q fv s rr := h.frame (Chg.of_below hc NoF) (fun _ _ h => h)
theorem IsRf.drew (h : IsRf B w q fv s rr) : IsRf B w.drew q fv s rr := ⟨h.blk, h.x16, h.f.drew, h.len, fun k r f hr hf => by obtain ⟨h1, h2, h3⟩ := h.each k r f hr hf; exact ⟨h1, h2, h3.drew⟩, h.hq, h.hf, h.hr, h.sep⟩
theorem StR_x (xs : List Cl) (fv : Value) (i j : Nat) (hi : i < xs.length) (hj : j < 2) : (StR xs fv)[i * 2 + j]? = (eRC.f xs[i])[j]? := by
  have h1 := eRC.flat_get xs i j hi hj
  have hl : (eRC.flat xs).length = xs.length * 2 := eRC.flat_length xs
  unfold StR
  rw [List.getElem?_toArray, List.getElem?_append_left (by rw [hl]; omega)]
  exact h1
theorem StR_f (xs : List Cl) (fv : Value) (h : xs.length = 16) : (StR xs fv)[32]? = some fv := by
  have hl : (eRC.flat xs).length = 32 := by rw [eRC.flat_length, h]; rfl
  unfold StR
  rw [List.getElem?_toArray, List.getElem?_append_right (by omega), hl]; rfl
theorem IsRf.cf (h : IsRf B w q fv s rr) : w.cell? ⟨q, 32, none⟩ = some fv := by rw [blk_c h.blk]; exact StR_f _ _ h.x16
theorem IsRf.cx (h : IsRf B w q fv s rr) (i : Nat) (x : Cl) (hx : s.x[i]? = some x) :
    w.cell? ⟨q, i * 2, none⟩ = some (.bool x.on) ∧ w.cell? ⟨q, i * 2 + 1, none⟩ = some (.int .u64 x.w) := by
  obtain ⟨hi, rfl⟩ := List.getElem?_eq_some_iff.1 hx
  exact ⟨by rw [blk_c h.blk]; exact StR_x _ _ i 0 hi (by decide), by rw [blk_c h.blk]; exact StR_x _ _ i 1 hi (by decide)⟩
theorem IsRf.fz (h : IsRf B w q fv s rr) (k : Nat) : w.frozen? ⟨q, k, none⟩ = false := blk_f h.blk k
theorem IsRf.fshape (h : IsRf B w q fv s rr) : ∃ A c, fv = .slice A s.fs.length c ∧ (0 < s.fs.length → ∃ g, A = some ⟨g, 0, none⟩) := by
  obtain ⟨A, c, hv, _, _, h0, h1⟩ := h.f.shape
  have hl := h.len
  refine ⟨A, c, by rw [← hl]; exact hv, fun hp => ?_⟩
  cases A with
  | none => have := (h0 rfl).1; rw [this] at hl; simp at hl; omega
  | some a => obtain ⟨g, rfl⟩ := h1 a rfl; exact ⟨g, rfl⟩
theorem IsRf.recc {g n c : Nat} (h : IsRf B w q (.slice (some ⟨g, 0, none⟩) n c) s rr) (i : Nat) (r : RR) (hr : rr[i]? = some r) :
    w.cell? ⟨g, i * 3, none⟩ = some (.int .i64 r.rt) ∧ w.cell? ⟨g, i * 3 + 1, none⟩ = some (.bool r.op) ∧ w.cell? ⟨g, i * 3 + 2, none⟩ = some (.slice r.A r.n r.c) := by
  obtain ⟨hi, rfl⟩ := List.getElem?_eq_some_iff.1 hr
  exact ⟨h.f.elem i 0 hi (by decide), h.f.elem i 1 hi (by decide), h.f.elem i 2 hi (by decide)⟩
theorem IsRf.top (h : IsRf B w q fv s rr) {m : Nat} (hm : s.fs.length = m + 1) : ∃ r f, rr[m]? = some r ∧ s.fs[m]? = some f ∧ s.fs.getLast? = some f ∧ r.rt = f.rt ∧ r.op = f.y.isSome ∧ Own w 66 eRC r.v f.cl ∧ r.n = f.cl.length := by
  have hl := h.len
  have hr : rr[m]? = some (rr[m]'(by omega)) := List.getElem?_eq_getElem _
  have hf : s.fs[m]? = some (s.fs[m]'(by omega)) := List.getElem?_eq_getElem _
  obtain ⟨h1, h2, h3⟩ := h.each m _ _ hr hf
  obtain ⟨A, c, hv, _⟩ := h3.shape
  refine ⟨_, _, hr, hf, ?_, h1, h2, h3, by unfold RR.v at hv; injection hv⟩
  rw [List.getLast?_eq_getElem?, show s.fs.length - 1 = m by omega]
  exact hf
end
set_option maxHeartbeats 1000000 in
theorem rlast_any (w : World) (q : Nat) (fv : Value) (s : StM) (rr : List RR) (hs : IsRf B w q fv s rr) (hn : s.fs.length ≤ 1000) :
    Calls Try.prog 45 #[.pointer (some ⟨q, 0, none⟩)] w (LastPost w fv s) := by
  obtain ⟨A, c, hv, hA⟩ := hs.fshape
  have q := hs.cf
  have HV := Kp.mk hv
  by_cases hz : s.fs.length = 0
  · have e0 : ((s.fs.length : Int) == 0) = true := by rw [hz]; rfl
    rw [hv] at q
    have HZ := Kp.mk hz
    clear hz hv hA
    go_enter Try.func45, Try.ntmps45
    go_wp2
    go_ret
    exact ⟨none, .inl ⟨HZ.out, rfl⟩, rfl, Below.refl _ _⟩
  · obtain ⟨m, hm⟩ : ∃ m, s.fs.length = m + 1 := ⟨s.fs.length - 1, by omega⟩
    obtain ⟨g, rfl⟩ := hA (by omega)
    rw [hm] at hv
    rw [hv] at q
    have HM := Kp.mk hm
    have HV2 := Kp.mk hv
    have hm2 : m ≤ 1000 := by omega
    clear hz hv hA hm hn
    have e0 : (((m : Int) + 1) == 0) = false := by simp; omega
    have e1 : ((m : Int) + 1 - 1) = (m : Int) := by omega
    have m0 : (0 : Int) ≤ (m : Int) := by omega
    have m1 : (m : Int) < (m : Int) + 1 := by omega
    go_enter Try.func45, Try.ntmps45
    go_wp2_with fail
    go_quiet (fail)
    go_wp2
    go_ret
    exact ⟨_, .inr ⟨m, g, HM.out, by rw [HV2.out]; rfl, rfl⟩, rfl, below_drewN (Below.refl _ _) _⟩
theorem size_some' {f : Fr} (h : f.y.isSome = true) : f.size = (f.cl.length : Int) := by
  unfold Fr.size Fr.cl
  cases hy : f.y with
  | none => rw [hy] at h; cases h
  | some l => rfl
set_option maxHeartbeats 1000000 in
theorem rsize_any (w : World) (q : Nat) (fv : Value) (s : StM) (rr : List RR) (hs : IsRf B w q fv s rr) (hn : s.fs.length ≤ 1000) :
    Calls Try.prog 43 #[.pointer (some ⟨q, 0, none⟩)] w fun e w' => e = .returned (.int .i64 (topSize s)) ∧ Below w.heap.size w w' := by
  have HS := Kp.mk hs
  clear hs
  go_enter Try.func43, Try.ntmps43
  go_wp2_with fail
  refine (rlast_any w q fv s rr HS.out hn).mono ?_
  rintro e w1 ⟨P, hP, rfl, hb⟩
  rcases hP with ⟨h0, rfl⟩ | ⟨m, g, hm, hg, rfl⟩
  · have e : Kp (topSize s = -1) := ⟨by unfold topSize; rw [List.eq_nil_of_length_eq_zero h0]; rfl⟩
    clear h0
    go_wp2
    go_ret
    exact ⟨by rw [e.out]; rfl, hb⟩
  · obtain ⟨r, f, hr, hf, hl, hrt, hop, hown, hrn⟩ := HS.out.top hm
    obtain ⟨A, c, hv, hA⟩ := HS.out.fshape
    obtain ⟨g', rfl⟩ := hA (by omega)
    subst hv
    have eg : g' = g := by simpa [Value.ownBlock] using hg
    subst eg
    obtain ⟨_, q1, q2⟩ := (HS.out.below hb).recc m r hr
    cases ho : r.op
    · rw [ho] at q1 hop
      have e : Kp (topSize s = -1) := ⟨by unfold topSize; rw [hl]; simp only [Fr.size]; cases hy : f.y; rfl; rw [hy] at hop; cases hop⟩
      clear hm hr hf hl hrt hop hown hrn hg hA ho
      go_wp2
      go_ret
      exact ⟨by rw [e.out]; rfl, hb⟩
    · rw [ho] at q1 hop
      have e : Kp (topSize s = r.n) := ⟨by unfold topSize; rw [hl, hrn]; exact size_some' hop.symm⟩
      clear hm hr hf hl hrt hop hown hrn hg hA ho
      go_wp2
      go_ret
      exact ⟨by rw [e.out]; rfl, hb⟩
end Go.Proofs.Ythdfmopbihpcoaa
