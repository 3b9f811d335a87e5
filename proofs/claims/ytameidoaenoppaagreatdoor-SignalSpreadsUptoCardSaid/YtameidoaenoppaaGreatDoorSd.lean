/- dies of package signal's Spread walked; bounds stand in the statement. -/
import Derived.Test.YtameidoaenoppaaGreatDoorWb
import Derived.Test.YtameidoaenoppaaGreatDoorTg
import Derived.Test.YtameidoaenoppaaGreatDoorRange
namespace Go.Proofs.YtameidoaenoppaaGreatDoor
open Go.RowKit Go.Shelf

theorem run_app1 {P : Program} {α : Type} {t e : TypeId} {E : El α} {by_ : Nat} {l : List α} {v : Value} {W0 : World} {ty : TypeId} (hT : SlT P t e E by_) (y : α) {cs : Array Value} (hown : Own W0 e E v l) (hcs : cs.toList = E.f y)
    (hb : (l.length + 1) * by_ ≤ 140737488355328) (hmax : l.length + 1 ≤ 9000000000000000000) :
    ∃ v' w', (Builtin.append_ #[t, t] ty #[v, .slice (some ⟨W0.heap.size, 0, none⟩) 1 1]).run P (W0.alloc (.cells cs e)) = .ok v' w' ∧ Own w' e E v' (l ++ [y]) ∧ Chg (fun g => v.ownBlock = some g) W0 w' ∧
      (v'.ownBlock = v.ownBlock ∨ ∃ g, v'.ownBlock = some g ∧ W0.heap.size ≤ g) := by
  have hsrc : Src (W0.alloc (.cells cs e)) E (some ⟨W0.heap.size, 0, none⟩) 1 [y] := ⟨fun ad ha j u hu => by
    cases ha
    rw [Addr.add_lit, Nat.zero_add, blk_c (blk_new W0 _)]
    rw [E.flat_one, ← hcs] at hu
    simpa using hu, fun h => by cases h⟩
  obtain ⟨v', w', hr, h1, h2, h3⟩ := run_app (ty := ty) hT (hown.alloc (.cells cs e)) (xs := [y]) (m := 1) (c := 1) (A := some ⟨W0.heap.size, 0, none⟩) rfl hsrc hb hmax
  refine ⟨v', w', hr, h1, ((Chg.refl _ W0).alloc _).then h2, ?_⟩
  rcases h3 with h3 | ⟨g, h3, h4⟩
  · exact .inl h3
  · exact .inr ⟨g, h3, by simp at h4; omega⟩
theorem app_wp {P : Program} {o : Oper} {a : Act} {w w' : World} {K : Act → World → Prop} {Q : Exit → Act → World → Prop} {t : TypeId} {v u v' : Value} (s x : Operand) (ho : o.op = .call { callee := .builtin .append, args := #[s, x], argTypes := #[t, t] })
    (hs : a.eval s = v) (hx : a.eval x = u) (hr : (Builtin.append_ #[t, t] o.type #[v, u]).run P w = .ok v' w') (h : K (a.put o.dst v') w') : o.wp P a w K Q := by
  unfold Oper.wp execOp
  simp only [ho, resolve, invoke, builtin, Sem.run_bind, Sem.run_pure, Result.andThen_ok, List.map_toArray, List.map_cons, List.map_nil, hs, hx, hr]
  exact h
theorem cell_keep {w w' : World} {p : Addr} {u : Value} (hk : ∀ (k : Nat) (o : Obj), w.heap[k]? = some o → o.isCells = true → w'.heap[k]? = some o) (h1 : w.cell? p = some u) : w'.cell? p = some u := by
  have e : w'.heap[p.block]? = w.heap[p.block]? := by
    cases ho : w.heap[p.block]? with
    | none => simp [World.cell?, ho] at h1
    | some o =>
      cases o with
      | cells cs t z => exact hk _ _ ho rfl
      | _ => simp [World.cell?, ho] at h1
  unfold World.cell? at h1 ⊢
  rw [e]; exact h1
theorem Src.keep {α : Type} {E : El α} {w w' : World} {A : Option Addr} {c : Nat} {l : List α} (h : Src w E A c l) (hk : ∀ (k : Nat) (o : Obj), w.heap[k]? = some o → o.isCells = true → w'.heap[k]? = some o) : Src w' E A c l :=
  ⟨fun ad ha j u hu => cell_keep hk (h.cell ad ha j u hu), h.none⟩
theorem keep_map {κ : Type} [DecidableEq κ] {P : Program} {k : TypeId} {T : KeyT P k κ} {w w' : World} {b : Nat} {es : List (κ × Value)} (h : IsMapV T w b es) (hc : Chg (fun g => g = b) w w') : ∀ (k : Nat) (o : Obj), w.heap[k]? = some o → o.isCells = true → w'.heap[k]? = some o := fun k o ho hi =>
  hc.at ho (fun e => by
    obtain ⟨a, c, hb⟩ := h.blk
    rw [e, hb] at ho; cases ho; cases hi)
/-- What dies turns. -/
def FDi (am bD : Nat) (dv : Value) : Nat → Prop := fun g => g = am ∨ g = bD ∨ dv.ownBlock = some g
def DiesPost (w : World) (am bD : Nat) (es : List (Int × Value)) (dv : Value) (vs : List Dv) (x : Int) (r : List Ce) (e : Ending) (w' : World) : Prop :=
  (∃ v, e = .returned v) ∧ ∃ dv' A c, Boxed w' bD 24 dv' ∧ IsMapV K2 w' am (cut es x) ∧ Own w' 48 eDv dv' (vs ++ [⟨x, A, r.length, c⟩]) ∧ Own w' 63 eCe (.slice A r.length c) r ∧ Fresh w (.slice A r.length c) ∧
    (dv'.ownBlock = dv.ownBlock ∨ ∃ g, dv'.ownBlock = some g ∧ w.heap.size ≤ g) ∧ Chg (FDi am bD dv) w w'
set_option maxRecDepth 100000 in
set_option maxHeartbeats 8000000 in
theorem dies_any (w : World) (bA am bD : Nat) (es : List (Int × Value)) (dv : Value) (vs : List Dv) (x : Int) (A : Option Addr) (c : Nat) (r : List Ce)
    (hA : Boxed w bA 61 (.map (some am))) (hm : IsMapV K2 w am es) (hD : Boxed w bD 24 dv) (ho : Own w 48 eDv dv vs) (hx : K2.ok x) (hs : Src w eCe A c r) (h1 : 1 ≤ r.length) (hn : r.length ≤ 1024) (hv : vs.length ≤ 2000000000000) :
    Calls Tryz.prog 24 #[.int .i64 x, .slice A r.length c, .pointer (some ⟨bA, 0, none⟩), .pointer (some ⟨bD, 0, none⟩)] w (DiesPost w am bD es dv vs x r) := by
  obtain ⟨w2, hr2, m2, c2⟩ := hm.del Tryz.underlying61 x hx 0
  have hr2' : (Builtin.delete_ #[61, 2] 0 #[.map (some am), .int .i64 x]).run Tryz.prog w = .ok (.tuple #[]) w2 := hr2
  have hDm : bD ≠ am := map_ne hm hD
  have D2 : Kp (Boxed w2.drew bD 24 dv) := ⟨c2.at hD hDm⟩
  have M2 : Kp (IsMapV K2 w2.drew am (cut es x)) := ⟨m2.drew⟩
  have hom : ∀ g, dv.ownBlock = some g → g ≠ am := fun g hg => by
    obtain ⟨cur, hcur⟩ := ho.blk' hg
    exact map_ne hm hcur
  have O2 : Kp (Own w2.drew 48 eDv dv vs) := ⟨(ho.frame c2 (fun g hg => hom g hg)).below (Below.refl _ _).drew⟩
  have C2 : Kp (Chg (FDi am bD dv) w w2.drew) := ⟨(c2.mono (fun _ _ h => .inl h)).drew⟩
  have hsm : Src w2.drew eCe A c r := hs.keep (keep_map hm ⟨c2.os, c2.tape, c2.output, c2.size, c2.block⟩)
  have S2 := Kp.mk (clone_any w2.drew A c r hsm (by omega) h1)
  have hA0 := hA.cell
  have hND : dv.ownBlock ≠ some bD := ho.ne hD (by decide)
  have HND := Kp.mk hND
  have HOM := Kp.mk hom
  have HDM := Kp.mk hDm
  clear hr2 m2 c2 hm hD ho hsm hs hA hND hom hDm
  go_enter Tryz.func24, Tryz.ntmps24
  go_upto_region 1 with fail
  refine R_begin 7 (fun w9 => w9.cell? ⟨bD, 0, none⟩ = some dv) (by kernel_rfl) D2.out.cell (fun HP0 => ?_)
  refine R_take 0 rfl (by kernel_rfl) HP0 ?_
  apply Exists.intro
  refine ⟨fun _ _ _ h => h, .inl ⟨by kernel_rfl, fun w9 h9 => ?_⟩, fun HP1 => ?_⟩
  · obtain s1 := h9; go_simp; first | done | rfl
  clear HP0
  refine R_pure 1 rfl (by kernel_rfl) HP1 ?_
  apply Exists.intro
  refine ⟨fun _ _ _ h => h, .inl ⟨by kernel_rfl, fun w9 h9 => ?_⟩, fun HP2 => ?_⟩
  · clear h9; go_simp; first | done | rfl
  clear HP1
  refine R_pure 2 rfl (by kernel_rfl) HP2 ?_
  apply Exists.intro
  refine ⟨fun _ _ _ h => h, .inl ⟨by kernel_rfl, fun w9 h9 => ?_⟩, fun HP3 => ?_⟩
  · clear h9; go_simp; first | done | rfl
  clear HP2
  refine R_all [3] (by kernel_rfl) ?_
  refine AllR.cons (i := 3) rfl (fun K9 HK9 => ?_) ?_
  · go_simp
    refine S2.out.mono ?_
    rintro e w5 ⟨v5, rfl, o5, f5, b5⟩
    obtain ⟨A5, c5, rfl, _⟩ := o5.shape
    have O5 := Kp.mk o5
    have F5 := Kp.mk f5
    have B5 := Kp.mk b5
    have D5 : Kp (Boxed w5 bD 24 dv) := ⟨(Chg.of_below b5 NoF).at D2.out (fun h => h)⟩
    obtain ⟨v6, w6, hr6, o6, c6, f6⟩ := run_app1 (ty := 24) TDv (⟨x, A5, r.length, c5⟩ : Dv) (cs := #[.int .i64 x, .slice A5 r.length c5]) (O2.out.below b5) rfl (by omega) (by omega)
    obtain ⟨A6, n6, hv6, _⟩ := o6.shape
    rw [List.length_append, List.length_singleton] at hv6
    subst hv6
    have D6 : Kp (Boxed w6 bD 24 dv) := ⟨c6.at D5.out HND.out⟩
    have hb6 := D6.out.cell
    have hf6 := D6.out.frozen
    have O6 := Kp.mk o6
    have C6 := Kp.mk c6
    have F6 := Kp.mk f6
    clear o5 f5 b5 o6 c6 f6
    go_simp
    refine HK9.out _ _ (.inr D5.out.cell) (fun HP4 => ?_)
    clear HK9 K9
    refine R_pure 4 rfl (by kernel_rfl) HP4 ?_
    apply Exists.intro
    refine ⟨fun _ _ _ h => h, .inl ⟨by kernel_rfl, fun w9 h9 => ?_⟩, fun HP5 => ?_⟩
    · clear h9; go_simp; first | done | rfl
    clear HP4
    refine R_all [5] (by kernel_rfl) ?_
    refine AllR.cons (i := 5) rfl (fun K9 HK9 => ?_) ?_
    · go_simp
      refine HK9.out _ _ (.inr (Boxed.alloc D5.out _).cell) (fun HP6 => ?_)
      clear HK9 K9
      refine R_all [6] (by kernel_rfl) ?_
      refine AllR.cons (i := 6) rfl (fun K9 HK9 => ?_) ?_
      · rw [if_pos (by kernel_rfl)]
        refine app_wp (P := Tryz.prog) (w := w5.alloc (.cells #[.int .i64 x, .slice A5 r.length c5] 48)) (w' := w6)  (v := dv) (u := .slice (some ⟨w5.heap.size, 0, none⟩) 1 1) (t := 24) (Operand.tmp 8) (Operand.tmp 13) rfl rfl rfl hr6 ?_
        refine HK9.out _ _ (.inr D6.out.cell) (fun HP7 => ?_)
        clear HK9 K9
        refine R_all [7] (by kernel_rfl) ?_
        refine AllR.cons (i := 7) rfl (fun K9 HK9 => ?_) ?_
        · go_simp
          refine HK9.out _ _ (.inl (by kernel_rfl)) (fun HP8 => ?_)
          clear HK9 K9
          refine R_done (by kernel_rfl) ?_
          go_end0
          refine ⟨⟨_, rfl⟩, _, A5, c5, D6.out.set _, ?_, ?_, ?_, ?_, ?_, ?_⟩
          · exact ((M2.out.below B5.out).frame C6.out (fun h => HOM.out _ h rfl)).frame (chg_cell w6 bD 0 _) (fun h => HDM.out h.symm)
          · exact O6.out.set_ne (O6.out.ne D6.out (by decide)) _
          · refine (O5.out.frame C6.out (fun g hg hd => ?_)).set_ne (O5.out.ne D5.out (by decide)) _
            have h1 := F5.out g hg
            have h2 := O2.out.lt hd
            omega
          · exact fun g hg => Nat.le_trans C2.out.size (F5.out g hg)
          · rcases F6.out with h | ⟨g, h, hg⟩
            · exact .inl h
            · exact .inr ⟨g, h, Nat.le_trans C2.out.size (Nat.le_trans B5.out.size hg)⟩
          · exact ((C2.out.trans (Chg.of_below B5.out NoF) (fun _ _ h => h.elim)).trans C6.out (fun _ _ h => .inr (.inr h))).set (p := ⟨bD, 0, none⟩) (.inl (.inr (.inl rfl))) _
        exact AllR.nil
      exact AllR.nil
    exact AllR.nil
  exact AllR.nil
end Go.Proofs.YtameidoaenoppaaGreatDoor
