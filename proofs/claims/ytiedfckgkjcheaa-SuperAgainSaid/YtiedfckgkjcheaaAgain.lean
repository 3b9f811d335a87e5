/- SuperAgain: behind an end that is no giving up all that ran run, but Temporary ones, and one that may stay away; of OneForOne no other one is touched; no condition. -/
import Derived.Test.YtiedfckgkjcheaaRows
import Derived.Test.YtiedfckgkjcheaaX
import Derived.Test.YtiedfckgkjcheaaArgs
import Derived.WalkKit
import Derived.ProofKit
import Derived.OpenShut
import Derived.ShutString
import Derived.Below
import Derived.Carry
namespace Go.Proofs.Ytiedfckgkjcheaa.superAgain
open Go.ChangeShapes Go.WideShapes Go.ChangeAt Go.RowKit
open Go.ChangeMaps (open_string shut_string)
set_option linter.unusedVariables false

theorem own : ownKnob Try.prog.godebug = none := by kernel_rfl
theorem laidOut : laidOutB Try.prog = true := by kernel_rfl
theorem bytes49 : Try.prog.bytesOf 49 = 24 := by kernel_rfl
theorem bytes39 : Try.prog.bytesOf 39 = 40 := by kernel_rfl

section
variable {H : Type} {enc : TypeId × Value → H} {w : World} {base : Nat} {spare : Nat → Bool} {held : Bool}
theorem openL {fuel : Nat} {A : Option Addr} {len cap : Nat} {x : DataW H × List MemPlace} (h : DataW.trod enc Try.prog w base spare held fuel 26 [.slice A len cap] = some x) :
    ∃ l : List CS, l.length = len ∧ (∀ y ∈ l, True) ∧ Src w eCS A cap l ∧ len ≤ maxLen ∧ (x.1 = .nil ∧ len = 0 ∨ ∃ el sp, x.1 = .slice el sp ∧ el.length = len) := by
  refine src_structs eCS (fun _ => True) Try.underlying26 Try.underlying49 (by kernel_rfl) (by kernel_rfl) rfl (fun at_ hf => ?_) h
  obtain ⟨v0, n0, y0, a0, t0⟩ := hf 0 _ rfl
  obtain ⟨v1, n1, y1, a1, t1⟩ := hf 1 _ rfl
  obtain ⟨s0, e0, _, _⟩ := DataW.trod_string Try.underlying9 t0
  obtain ⟨s1, e1, _, _⟩ := DataW.trod_int Try.underlying3 t1
  cases e0
  cases e1
  refine ⟨⟨s0, s1⟩, trivial, fun j u hu => ?_⟩
  match j, hu with
  | 0, hu => cases hu; exact a0
  | 1, hu => cases hu; exact a1
theorem openO {fuel : Nat} {A : Option Addr} {len cap : Nat} {x : DataW H × List MemPlace} (h : DataW.trod enc Try.prog w base spare held fuel 35 [.slice A len cap] = some x) :
    ∃ l : List OpM, l.length = len ∧ (∀ y ∈ l, (Lit.int .i64 y.tick).wf = true) ∧ Src w eOp A cap l ∧ len ≤ maxLen ∧ (x.1 = .nil ∧ len = 0 ∨ ∃ el sp, x.1 = .slice el sp ∧ el.length = len) := by
  refine src_structs eOp (fun y => (Lit.int .i64 y.tick).wf = true) Try.underlying35 Try.underlying39 (by kernel_rfl) (by kernel_rfl) rfl (fun at_ hf => ?_) h
  obtain ⟨v0, n0, y0, a0, t0⟩ := hf 0 _ rfl
  obtain ⟨v1, n1, y1, a1, t1⟩ := hf 1 _ rfl
  obtain ⟨v2, n2, y2, a2, t2⟩ := hf 2 _ rfl
  obtain ⟨v3, n3, y3, a3, t3⟩ := hf 3 _ rfl
  obtain ⟨s0, e0, _, _⟩ := DataW.trod_int Try.underlying3 t0
  obtain ⟨s1, e1, _, _⟩ := DataW.trod_string Try.underlying9 t1
  obtain ⟨s2, e2, _⟩ := DataW.trod_bool Try.underlying4 t2
  obtain ⟨s3, e3, _, hw⟩ := DataW.trod_int Try.underlying2 t3
  cases e0
  cases e1
  cases e2
  cases e3
  refine ⟨⟨s0, s1, s2, s3⟩, hw, fun j u hu => ?_⟩
  match j, hu with
  | 0, hu => cases hu; exact a0
  | 1, hu => cases hu; exact a1
  | 2, hu => cases hu; exact a2
  | 3, hu => cases hu; exact a3
end

set_option maxRecDepth 100000 in
theorem lifted (os : Os) (started : os.Started) (H : Type) (enc : TypeId × Value → H) :
    ReturnsInHanded {} Try.checked os 4 .any (Rows.superAgainSpec.pre6 enc Try.prog Try.f4 Rows.superAgainRow.domain false) (Rows.superAgainSpec.post enc Try.prog Try.f4 false true false false) := by
  refine returnsInHanded_of_change_sized (C := Try.checked) own started (by kernel_rfl) Try.func4
    (ChangeSpec.witness6 (enc := enc) (C := Try.checked) false ⟨#[], #[.int .i64 0, .int .i64 0, .slice none 0 0, .slice none 0 0], []⟩ 8 (by kernel_rfl) (by kernel_rfl) (by kernel_rfl) (by kernel_rfl)) ?_
  intro W base args ds gs before hval0 hW hcnd hsz0 _
  have hsz : (DataW.weightsEach Try.prog (Try.f4.params.toList ++ Rows.superAgainSpec.plain.varTypes Try.prog) (ds ++ gs)).all (· ≤ reachBytes) = true := hsz0
  clear hsz0
  have hval : ∀ (j : Nat) t v, Try.f4.params[j]? = some t → args[j]? = some v → Value.okWide Try.prog W .any base t v := hval0
  have hW' := hW
  obtain ⟨p, q, hA0, hV, rfl, hfz, hnd⟩ := hW
  have hA : DataW.TrodAll enc Try.prog W 0 (fun _ => true) true Try.f4.params.toList args.toList ds p := hA0
  rw [Try.params4] at hA hval hsz
  obtain ⟨v0, vs0, d0, ds0, p0, q0, hargs, rfl, rfl, h0, r0⟩ := trodAll_cons hA
  obtain ⟨v1, vs1, d1, ds1, p1, q1, rfl, rfl, rfl, h1, r1⟩ := trodAll_cons r0
  obtain ⟨v2, vs2, d2, ds2, p2, q2, rfl, rfl, rfl, h2, r2⟩ := trodAll_cons r1
  obtain ⟨v3, vs3, d3, ds3, p3, q3, rfl, rfl, rfl, h3, r3⟩ := trodAll_cons r2
  obtain ⟨rfl, rfl, rfl⟩ := trodAll_nil r3
  obtain rfl : args = #[v0, v1, v2, v3] := by cases args; simp_all
  obtain ⟨rfl, rfl⟩ := trodVars_none hV
  obtain ⟨a0, rfl, rfl, rfl, w0⟩ := open_int Try.underlying3 (hval 0 3 v0 rfl rfl) h0
  obtain ⟨a1, rfl, rfl, rfl, w1⟩ := open_int Try.underlying2 (hval 1 2 v1 rfl rfl) h1
  obtain ⟨A2, len2, cap2, rfl⟩ := okWide_slice Try.underlying26 (hval 2 26 v2 rfl rfl)
  obtain ⟨A3, len3, cap3, rfl⟩ := okWide_slice Try.underlying35 (hval 3 35 v3 rfl rfl)
  have k2 := h2
  have k3 := h3
  have lt2 : ∀ x ∈ p2, x.block < W.heap.size := by obtain ⟨m, hm⟩ := k2; exact DataW.trod_lt m _ _ _ hm
  have lt3 : ∀ x ∈ p3, x.block < W.heap.size := by obtain ⟨m, hm⟩ := k3; exact DataW.trod_lt m _ _ _ hm
  obtain ⟨f2, g2⟩ := h2
  obtain ⟨f3, g3⟩ := h3
  obtain ⟨l2, rfl, _, s2, _, x2⟩ := openL g2
  obtain ⟨l3, rfl, _, s3, _, x3⟩ := openO g3
  have n2 := reach_len hsz (j := 2) (t := 26) (e := 49) rfl rfl Try.underlying26 x2
  have n3 := reach_len hsz (j := 3) (t := 35) (e := 39) rfl rfl Try.underlying35 x3
  rw [bytes49] at n2
  rw [bytes39] at n3
  simp only [reachBytes] at n2 n3
  clear hA0 hval0
  refine (again_any W a0 a1 l2 l3 A2 A3 cap2 cap3 s2 s3 (by omega) (by omega)).mono fun e W' ⟨he, bel⟩ => ?_
  subst he
  exact ⟨_, rfl, _, _, _, [], _, [], hW', trodAll_mk1 (shut_bool Try.underlying4 _), (trodAll_cons_mk (shut_int Try.underlying3 w0) (trodAll_cons_mk (shut_int Try.underlying2 w1) (trodAll_cons_mk (Below.trod laidOut (by kernel_rfl) (of_decide_eq_true (by kernel_rfl)) k2 bel lt2) (trodAll_cons_mk (Below.trod laidOut (by kernel_rfl) (of_decide_eq_true (by kernel_rfl)) k3 bel lt3) trodAll_mk0)))), rfl, bel.frame _, fun h => by cases h⟩

theorem over : Rows.superAgainRow.holds Try.pinned (OpenSpec.ofChange Rows.superAgainSpec) :=
  OpenClaim.holds_of_wide 4 Try.f4 rfl rfl rfl rfl rfl rfl rfl ⟨rfl, rfl, rfl, rfl, rfl⟩ rfl rfl rfl rfl rfl (by kernel_rfl) Try.func4 (by kernel_rfl)
    (of_decide_eq_true (by kernel_rfl)) (by unfold Func.isWrapper; first | (rw [if_pos (by decide +kernel)]; kernel_rfl) | (rw [if_neg (by decide +kernel)]; exact ⟨rfl, rfl⟩))
    (fun os started H enc _ => lifted os started H enc)

theorem proved : Rows.SuperAgainSaid := over
end Go.Proofs.Ytiedfckgkjcheaa.superAgain
namespace Go.Proofs.Ytiedfckgkjcheaa
/-- SuperAgain, as it is given. -/
theorem superAgain_holds : Rows.SuperAgainSaid := superAgain.proved
#print axioms superAgain_holds
end Go.Proofs.Ytiedfckgkjcheaa
