/- What Find and Leave of package links do; bounds stand in each statement. -/
import Derived.Test.YtlbbheopoflmjaaT
namespace Go.Proofs.Ytlbbheopoflmjaa
open Go.RowKit

def findE (ns : List NB) (r : Int) : Int := if (look (refsE ns) r).isSome = true then 0 else 5
def findB (ns : List NB) (r : Int) : Bd := match ns.find? (fun p => decide (p.2.r = r ∧ r ≠ 0)) with | some p => p.2 | none => ⟨0, 0, 0⟩
theorem find_some {ns : List NB} {last n r a b : Int} (h : GOk ns last) (h0 : r ≠ 0) (hn : (n, (⟨a, b, r⟩ : Bd)) ∈ ns) : findB ns r = ⟨a, b, r⟩ := by
  unfold findB
  cases hf : ns.find? (fun p => decide (p.2.r = r ∧ r ≠ 0)) with
  | none => have := List.find?_eq_none.1 hf _ hn; simp at this; exact absurd this h0
  | some p =>
    have h1 := List.mem_of_find?_eq_some hf
    have h2 : p.2.r = r ∧ r ≠ 0 := by simpa using List.find?_some hf
    have := h.ref h1 hn (by rw [h2.1]; exact h0) h2.1
    rw [this]
theorem find_none {ns : List NB} {last r : Int} (h : GOk ns last) (hn : look (refsE ns) r = none) : findB ns r = ⟨0, 0, 0⟩ := by
  unfold findB
  cases hf : ns.find? (fun p => decide (p.2.r = r ∧ r ≠ 0)) with
  | none => rfl
  | some p =>
    have h1 := List.mem_of_find?_eq_some hf
    have h2 : p.2.r = r ∧ r ≠ 0 := by simpa using List.find?_some hf
    have : look (refsE ns) r = some (.int .i64 p.1) := (look_refs h).2 ⟨h2.2, p.1, p.2.a, p.2.b, by rw [← h2.1]; exact h1, rfl⟩
    rw [hn] at this; cases this
theorem results_row_tmp {P : Program} {fn : Func} {p u : Tmp} {ty : TypeId} (h : fn.results = #[.cell p ty, .tmp u]) (tmps : Array Value) (w : World) (g : Nat) (t : TypeId) (cs : Array Value) (fr : Nat × Nat) (d : TypeDesc)
    (hp : tmps.getD p undef = .pointer (some ⟨g, 0, none⟩)) (hg : w.heap[g]? = some (.cells cs t fr))
    (hu : P.underlying ty = some d) (hd : (match d with | .struct _ | .array _ _ => true | _ => false) = true) (hi : (P.info? ty).map (·.size) = some cs.size) :
    (results fn tmps).run P w = .ok (.tuple #[.agg cs, tmps.getD u undef]) w := by
  have hp' : tmps[p]?.getD undef = .pointer (some ⟨g, 0, none⟩) := by simpa using hp
  simp [results, h, hp', asAddr, run_loadVar_row w g t ty cs fr d hg hu hd hi]
def FindPost (w : World) (ns : List NB) (r : Int) (e : Ending) (w' : World) : Prop :=
  e = .returned (.tuple #[.agg #[.int .i64 (findB ns r).a, .int .i64 (findB ns r).b, .int .i64 (findB ns r).r], .int .i64 (findE ns r)]) ∧ Below w.heap.size w w'
set_option maxRecDepth 100000 in
set_option maxHeartbeats 4000000 in
theorem find_any (w : World) (p bm lm rm : Nat) (ns : List NB) (last r : Int) (h : IsG w p bm lm rm ns last) (hl : last ≤ 900000000000000000) (hr : -9223372036854775808 ≤ r ∧ r ≤ 9223372036854775807) :
    Calls Try.prog 29 #[.pointer (some ⟨p, 0, none⟩), .int .i64 r] w (FindPost w ns r) := by
  have H := Kp.mk h
  have OKR : Kp (K2.ok r) := ⟨ok2 r hr.1 hr.2⟩
  have g1 : G3 (w.alloc (.cells #[.int .i64 0, .int .i64 0, .int .i64 0] 48)) p bm lm rm last (bondsE ns) (linksE ns) (refsE ns) := h.g.al _
  have hlk : ∀ V, G3 V p bm lm rm last (bondsE ns) (linksE ns) (refsE ns) → (Instr.lookup 63 (.map (some rm)) (.int .i64 r) false).run Try.prog V = .ok ((look (refsE ns) r).getD (.int .i64 0)) V := fun V hV => hV.mr.get Try.underlying63 (Try.zeroValue2 V) r OKR.out
  have q0 := g1.c0
  have q3 := g1.c3
  have q1 := lt_of_block h.g.blk
  have G1 := Kp.mk g1
  cases hlo : look (refsE ns) r with
  | none =>
    have hE : Kp (findE ns r = 5 ∧ findB ns r = ⟨0, 0, 0⟩) := ⟨by unfold findE; rw [hlo]; rfl, find_none h.ok hlo⟩
    have k1 := hlk _ g1
    rw [hlo] at k1
    have k1' : (Instr.lookup 63 (.map (some rm)) (.int .i64 r) false).run Try.prog (w.alloc (.cells #[.int .i64 0, .int .i64 0, .int .i64 0] 48)) = .ok (.int .i64 0) (w.alloc (.cells #[.int .i64 0, .int .i64 0, .int .i64 0] 48)) := k1
    clear hlo k1 hlk g1 h hl hr
    go_enter Try.func29, Try.ntmps29
    go_wp2
    refine bodyPost_ret (results_row_tmp rfl _ _ w.heap.size 48 _ (0, 0) _ rfl (blk_new w _) Try.underlying48 rfl (by kernel_rfl)) rfl ?_
    exact ⟨by rw [hE.out.1, hE.out.2]; rfl, (Below.refl _ w).alloc (Nat.le_refl _) _⟩
  | some v =>
    obtain ⟨h0, n, xa, xb, hn, rfl⟩ := (look_refs h.ok).1 hlo
    have hn1 : 1 ≤ n ∧ n ≤ last := h.ok.top _ hn
    have hE : Kp (findE ns r = 0 ∧ findB ns r = ⟨xa, xb, r⟩) := ⟨by unfold findE; rw [hlo]; rfl, find_some h.ok h0 hn⟩
    have k1 := hlk _ g1
    have k2 := hlk _ g1.drew
    rw [hlo] at k1 k2
    have k1' : (Instr.lookup 63 (.map (some rm)) (.int .i64 r) false).run Try.prog (w.alloc (.cells #[.int .i64 0, .int .i64 0, .int .i64 0] 48)) = .ok (.int .i64 n) (w.alloc (.cells #[.int .i64 0, .int .i64 0, .int .i64 0] 48)) := k1
    have k2' : (Instr.lookup 63 (.map (some rm)) (.int .i64 r) false).run Try.prog (w.alloc (.cells #[.int .i64 0, .int .i64 0, .int .i64 0] 48)).drew = .ok (.int .i64 n) (w.alloc (.cells #[.int .i64 0, .int .i64 0, .int .i64 0] 48)).drew := k2
    have k3 := g1.drew.mb.get Try.underlying61 (Try.zeroValue48 _) n (ok2 n (by omega) (by omega))
    rw [(look_bonds h.ok).2 ⟨_, hn, rfl⟩] at k3
    have k3' : (Instr.lookup 61 (.map (some bm)) (.int .i64 n) false).run Try.prog (w.alloc (.cells #[.int .i64 0, .int .i64 0, .int .i64 0] 48)).drew = .ok (.agg #[.int .i64 xa, .int .i64 xb, .int .i64 r]) (w.alloc (.cells #[.int .i64 0, .int .i64 0, .int .i64 0] 48)).drew := k3
    have hnz : (n == 0) = false := by simp; omega
    have G9 := Kp.mk (h.g.al (.cells #[.int .i64 xa, .int .i64 xb, .int .i64 r] 48)).drew
    clear hlo k1 k2 k3 hlk g1 h hl hr hn
    go_enter Try.func29, Try.ntmps29
    go_upto_region 5 with fail
    refine R_begin 999 (fun w9 => w9.cell? ⟨p, 0, none⟩ = some (.map (some bm)) ∧ w9.cell? ⟨p, 3, none⟩ = some (.map (some rm))) (by kernel_rfl) ⟨G1.out.drew.c0, G1.out.drew.c3⟩ (fun HP0 => ?_)
    refine R_pure 0 rfl (by kernel_rfl) HP0 ?_
    apply Exists.intro
    refine ⟨fun _ _ _ h => h, .inl ⟨by kernel_rfl, fun w9 h9 => ?_⟩, fun HP1 => ?_⟩
    · clear h9; go_simp; first | done | rfl
    clear HP0
    refine R_pure 1 rfl (by kernel_rfl) HP1 ?_
    apply Exists.intro
    refine ⟨fun _ _ _ h => h, .inl ⟨by kernel_rfl, fun w9 h9 => ?_⟩, fun HP2 => ?_⟩
    · clear h9; go_simp; first | done | rfl
    clear HP1
    refine R_pure 2 rfl (by kernel_rfl) HP2 ?_
    apply Exists.intro
    refine ⟨fun _ _ _ h => h, .inl ⟨by kernel_rfl, fun w9 h9 => ?_⟩, fun HP3 => ?_⟩
    · clear h9; go_simp; first | done | rfl
    clear HP2
    refine R_take 3 rfl (by kernel_rfl) HP3 ?_
    apply Exists.intro
    refine ⟨fun _ _ _ h => h, .inl ⟨by kernel_rfl, fun w9 h9 => ?_⟩, fun HP4 => ?_⟩
    · obtain ⟨s1, s2⟩ := h9; go_simp; first | done | rfl
    clear HP3
    refine R_pure 4 rfl (by kernel_rfl) HP4 ?_
    apply Exists.intro
    refine ⟨fun _ _ _ h => h, .inl ⟨by kernel_rfl, fun w9 h9 => ?_⟩, fun HP5 => ?_⟩
    · clear h9; go_simp; first | done | rfl
    clear HP4
    refine R_pure 5 rfl (by kernel_rfl) HP5 ?_
    apply Exists.intro
    refine ⟨fun _ _ _ h => h, .inl ⟨by kernel_rfl, fun w9 h9 => ?_⟩, fun HP6 => ?_⟩
    · clear h9; go_simp; first | done | rfl
    clear HP5
    refine R_pure 6 rfl (by kernel_rfl) HP6 ?_
    apply Exists.intro
    refine ⟨fun _ _ _ h => h, .inl ⟨by kernel_rfl, fun w9 h9 => ?_⟩, fun HP7 => ?_⟩
    · clear h9; go_simp; first | done | rfl
    clear HP6
    refine R_take 7 rfl (by kernel_rfl) HP7 ?_
    apply Exists.intro
    refine ⟨fun _ _ _ h => h, .inl ⟨by kernel_rfl, fun w9 h9 => ?_⟩, fun HP8 => ?_⟩
    · obtain ⟨s1, s2⟩ := h9; go_simp; first | done | rfl
    clear HP7
    refine R_pure 8 rfl (by kernel_rfl) HP8 ?_
    apply Exists.intro
    refine ⟨fun _ _ _ h => h, .inl ⟨by kernel_rfl, fun w9 h9 => ?_⟩, fun HP9 => ?_⟩
    · clear h9; go_simp; first | done | rfl
    clear HP8
    refine R_all [9] (by kernel_rfl) ?_
    refine AllR.cons (i := 9) rfl (fun K9 HK9 => ?_) ?_
    · go_simp
      refine HK9.out _ _ (.inr ⟨G1.out.drew.c0, G1.out.drew.c3⟩) (fun HP10 => ?_)
      clear HK9 K9
      refine R_all [10] (by kernel_rfl) ?_
      refine AllR.cons (i := 10) rfl (fun K9 HK9 => ?_) ?_
      · go_simp
        refine HK9.out _ _ (.inr ⟨G1.out.drew.c0, G1.out.drew.c3⟩) (fun HP11 => ?_)
        clear HK9 K9
        refine R_all [11] (by kernel_rfl) ?_
        refine AllR.cons (i := 11) rfl (fun K9 HK9 => ?_) ?_
        · go_simp
          refine HK9.out _ _ (.inr ⟨G9.out.c0, G9.out.c3⟩) (fun HP12 => ?_)
          clear HK9 K9
          refine R_pure 12 rfl (by kernel_rfl) HP12 ?_
          apply Exists.intro
          refine ⟨fun _ _ _ h => h, .inl ⟨by kernel_rfl, fun w9 h9 => ?_⟩, fun HP13 => ?_⟩
          · clear h9; go_simp; first | done | rfl
          clear HP12
          refine R_done (by kernel_rfl) ?_
          go_wp2
          refine bodyPost_ret (results_row_tmp rfl _ _ w.heap.size 48 _ (0, 0) _ rfl (blk_new w _) Try.underlying48 rfl (by kernel_rfl)) rfl ?_
          exact ⟨by rw [hE.out.1, hE.out.2]; rfl, ((Below.refl _ w).alloc (Nat.le_refl _) _).drew⟩
        exact AllR.nil
      exact AllR.nil
    exact AllR.nil
end Go.Proofs.Ytlbbheopoflmjaa
