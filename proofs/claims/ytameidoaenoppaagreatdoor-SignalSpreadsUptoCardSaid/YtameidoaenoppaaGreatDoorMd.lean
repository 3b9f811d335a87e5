/- made, copied, bonds and deaths of package signal's law walked; bounds stand in the statements. -/
import Derived.Test.YtameidoaenoppaaGreatDoorCt
import Derived.Test.YtameidoaenoppaaGreatDoorLPc
import Derived.Test.YtameidoaenoppaaGreatDoorDb
import Derived.Test.YtameidoaenoppaaGreatDoorSi
import Derived.Test.YtameidoaenoppaaGreatDoorAl
import Derived.Test.YtameidoaenoppaaGreatDoorDraw
import Derived.WalkSmall
namespace Go.Proofs.YtameidoaenoppaaGreatDoor
open Go.RowKit

/-- Both graphs at the beginning. -/
theorem two_new {w w1 : World} {p bm lm rm : Nat} (h1 : IsG w1 p bm lm rm [] 0) (hf : ∀ g, FG p bm lm rm g → w.heap.size ≤ g) (hb : Below w.heap.size w w1) : Two w (w1.alloc (.cells #[.slice none 0 0] 44)) p bm lm rm w1.heap.size (.slice none 0 0) [] 0 := by
  have hb2 : Below w1.heap.size w1 (w1.alloc (.cells #[.slice none 0 0] 44)) := (Below.refl _ _).alloc (Nat.le_refl _) _
  have hz := hb.size
  refine ⟨h1.below hb2, ⟨blk_new w1 _, Own.nil _ _ _⟩, hf, fun g hg => ?_, bstep hb hb.size hb2⟩
  rcases hg with rfl | hg
  · exact hz
  · cases hg
def MadePost (w : World) (n : Nat) (e : Ending) (w' : World) : Prop :=
  ∃ p bm lm rm q lv ns last, e = .returned (.tuple #[.pointer (some ⟨p, 0, none⟩), .pointer (some ⟨q, 0, none⟩)]) ∧ Two w w' p bm lm rm q lv ns last ∧ last ≤ n
theorem op_cells {w : World} {g o c : Nat} {ops : List OpM} (h : Src w eOp (some ⟨g, o, none⟩) c ops) (k : Nat) (x : OpM) (hx : ops[k]? = some x) :
    w.cell? ⟨g, o + k * 4, none⟩ = some (.int .i64 x.kind) ∧ w.cell? ⟨g, o + k * 4 + 1, none⟩ = some (.int .i64 x.a) ∧ w.cell? ⟨g, o + k * 4 + 2, none⟩ = some (.int .i64 x.b) ∧ w.cell? ⟨g, o + k * 4 + 3, none⟩ = some (.int .i64 x.ref) := by
  obtain ⟨hk, rfl⟩ := List.getElem?_eq_some_iff.1 hx
  refine ⟨?_, ?_, ?_, ?_⟩
  · have := h.elem k 0 hk (by decide); simpa [eOp] using this
  · have := h.elem k 1 hk (by decide); simpa [eOp, Nat.add_assoc] using this
  · have := h.elem k 2 hk (by decide); simpa [eOp, Nat.add_assoc] using this
  · have := h.elem k 3 hk (by decide); simpa [eOp, Nat.add_assoc] using this
section
variable {w0 w w1 : World} {p bm lm rm q : Nat} {lv : Value} {ns : List NB} {last : Int}
theorem GOk.n1024 {ns : List NB} {last : Int} (h : GOk ns last) : (sn ns).length ≤ 1024 := by rw [List.length_map]; exact h.len
/-- What a call of the program's graph leaves. -/
def PStep (w0 w w1 : World) (p bm lm rm q : Nat) (lv : Value) (ns : List NB) (last : Int) (G : List Bd → List Bd) : Prop :=
  Chg (FG p bm lm rm) w w1 ∧ IsD w1 q lv (sn ns) ∧ ∀ w', DStep w1 q lv (G (sn ns)) w' → ∃ lv' ns' last', Two w0 w' p bm lm rm q lv' ns' last' ∧ last' ≤ last + 1
theorem link_p (h : Two w0 w p bm lm rm q lv ns last) (hl : last ≤ 900000000000000000) (a b : Int) :
    Calls Tryz.prog 20 #[.pointer (some ⟨p, 0, none⟩), .int .i64 a, .int .i64 b] w fun e w1 => (∃ n : Int, e = .returned (.int .i64 n)) ∧ PStep w0 w w1 p bm lm rm q lv ns last (fun L => dLinkL L a b) := by
  refine (link_any w p bm lm rm ns last a b h.g hl).mono ?_
  rintro e w1 ⟨rfl, c1, h1⟩
  refine ⟨⟨_, rfl⟩, c1, h.dturn c1, fun w' hd => ?_⟩
  have hd : DStep w1 q lv (dLinkL (sn ns) a b) w' := hd
  rw [linkL_eq h.g.ok] at hd
  rcases h1 with ⟨e, h1⟩ | ⟨e, h1⟩
  · rw [if_neg e] at hd
    obtain ⟨lv', ht⟩ := h.step c1 h1 hd rfl
    exact ⟨lv', ns, last, ht, by omega⟩
  · rw [if_pos e] at hd
    obtain ⟨lv', ht⟩ := h.step c1 h1 hd rfl
    exact ⟨lv', _, _, ht, by omega⟩
theorem watch_p (h : Two w0 w p bm lm rm q lv ns last) (hl : last ≤ 900000000000000000) (r a b : Int) :
    Calls Tryz.prog 18 #[.pointer (some ⟨p, 0, none⟩), .int .i64 r, .int .i64 a, .int .i64 b] w fun e w1 => (∃ n : Int, e = .returned (.int .i64 n)) ∧ PStep w0 w w1 p bm lm rm q lv ns last (fun L => dWatchL L r a b) := by
  refine (watch_any w p bm lm rm ns last r a b h.g hl).mono ?_
  rintro e w1 ⟨rfl, c1, h1⟩
  refine ⟨⟨_, rfl⟩, c1, h.dturn c1, fun w' hd => ?_⟩
  have hd : DStep w1 q lv (dWatchL (sn ns) r a b) w' := hd
  rw [watchL_eq h.g.ok] at hd
  rcases h1 with ⟨e, h1⟩ | ⟨e, h1⟩
  · rw [if_neg e] at hd
    obtain ⟨lv', ht⟩ := h.step c1 h1 hd rfl
    exact ⟨lv', ns, last, ht, by omega⟩
  · rw [if_pos e] at hd
    obtain ⟨lv', ht⟩ := h.step c1 h1 hd rfl
    exact ⟨lv', _, _, ht, by omega⟩
end
set_option maxRecDepth 100000 in
set_option maxHeartbeats 8000000 in
theorem made_any (w : World) (ops : List OpM) (A : Option Addr) (c : Nat) (hs : Src w eOp A c ops) (hn : ops.length ≤ 9000000000000) :
    Calls Tryz.prog 4 #[.slice A ops.length c] w (MadePost w ops.length) := by
  have HS := Kp.mk hs
  clear hs
  obtain ⟨n, hnn⟩ : ∃ n, n = ops.length := ⟨_, rfl⟩
  have HN := Kp.mk hnn
  rw [← hnn] at hn ⊢
  clear hnn
  go_enter Tryz.func4, Tryz.ntmps4
  go_wp2_with fail
  refine (new_any w).mono ?_
  rintro e w1 ⟨p, bm, lm, rm, rfl, h1, hf, hb1⟩
  have T0 := Kp.mk (two_new h1 hf hb1)
  obtain ⟨q, hq⟩ : ∃ q, q = w1.heap.size := ⟨_, rfl⟩
  rw [← hq] at T0
  have HQ := Kp.mk hq
  clear h1 hf hb1 hq
  go_wp2_with fail
  rw [← HQ.out]
  go_loopw [7, 16] (fun _ i wr => ∃ (k : Nat) (lv : Value) (ns : List NB) (last : Int), k ≤ n ∧ i = .int .i64 k ∧ Kp (Two w wr p bm lm rm q lv ns last) ∧ Kp (last ≤ k)) (fun _ i _ => n - (intOf i).toNat)
  case atStart => exact ⟨0, _, _, _, Nat.zero_le _, rfl, T0, ⟨Int.le_refl _⟩⟩
  case round =>
    clear T0
    obtain ⟨k, lv, ns, last, hk, rfl, hT, TN⟩ := hrel
    by_cases hlt : k < n
    · obtain ⟨x, hx⟩ : ∃ x, ops[k]? = some x := ⟨_, List.getElem?_eq_getElem (by have := HN.out; omega)⟩
      obtain ⟨ad, rfl⟩ : ∃ ad, A = some ad := by
        cases A with
        | none => have h9 := (HS.out.none rfl).1; rw [h9] at hx; simp at hx
        | some ad => exact ⟨ad, rfl⟩
      obtain ⟨g, o, rfl⟩ := HS.out.addr (by have := HN.out; omega)
      obtain ⟨e0, e1, e2, e3⟩ := op_cells (HS.out.below hT.out.bel) k x hx
      obtain ⟨xk, xa, xb, xr⟩ := x
      simp only at e0 e1 e2 e3
      have k0 : (0 : Int) ≤ (k : Int) := by omega
      have k1 : (k : Int) < (n : Int) := by omega
      have hb2 : Below wr.heap.size wr (wr.alloc (.cells #[.int .i64 xk, .int .i64 xa, .int .i64 xb, .int .i64 xr] 56)) := (Below.refl _ _).alloc (Nat.le_refl _) _
      have T1 := Kp.mk (hT.out.below hb2)
      have X1 := Kp.mk (blk_new wr (.cells #[.int .i64 xk, .int .i64 xa, .int .i64 xb, .int .i64 xr] 56))
      have ZF : Kp (∀ g, FG p bm lm rm g → g ≠ wr.heap.size) := ⟨fun g hg => by have := hT.out.g.g.lt g hg; omega⟩
      have hl9 : last ≤ 900000000000000000 := by have := TN.out; omega
      have GL : Kp ((sn ns).length ≤ 1000000) := ⟨by have := hT.out.g.ok.n1024; omega⟩
      clear hx hb2
      by_cases hk2 : xk = 2
      · have hkb : (xk == 2) = true := by simpa using hk2
        clear hk2
        go_wp2_with fail
        refine (watch_p T1.out hl9 xr xa xb).mono ?_
        rintro e w5 ⟨⟨n5, rfl⟩, c5, d5, f5⟩
        have X5 := Kp.mk (c5.at X1.out (fun hF => ZF.out _ hF rfl))
        have q1 := blk_c X5.out 1
        have q2 := blk_c X5.out 2
        have q3 := blk_c X5.out 3
        have D5 := Kp.mk d5
        have F5 := Kp.mk f5
        clear c5 d5 f5
        go_wp2_with fail
        refine (dwatchG_any w5 q lv (sn ns) xr xa xb D5.out GL.out).mono ?_
        rintro e w6 ⟨rfl, h6⟩
        obtain ⟨lv', ns', last', h7, h8⟩ := F5.out _ h6
        have H7 := Kp.mk h7
        have H8 := Kp.mk h8
        clear h6 h7 h8
        go_wp2
        go_roundw
        case rel => exact ⟨k + 1, lv', ns', last', by omega, by go_num, H7, ⟨by have := H8.out; have := TN.out; omega⟩⟩
        case measure => simp [intOf]; omega
      · have hkb : (xk == 2) = false := by simpa using hk2
        clear hk2
        go_wp2_with fail
        refine (link_p T1.out hl9 xa xb).mono ?_
        rintro e w5 ⟨⟨n5, rfl⟩, c5, d5, f5⟩
        have X5 := Kp.mk (c5.at X1.out (fun hF => ZF.out _ hF rfl))
        have q1 := blk_c X5.out 1
        have q2 := blk_c X5.out 2
        have D5 := Kp.mk d5
        have F5 := Kp.mk f5
        clear c5 d5 f5
        go_wp2_with fail
        refine (dlink_any w5 q lv (sn ns) xa xb D5.out GL.out).mono ?_
        rintro e w6 ⟨rfl, h6⟩
        obtain ⟨lv', ns', last', h7, h8⟩ := F5.out _ h6
        have H7 := Kp.mk h7
        have H8 := Kp.mk h8
        clear h6 h7 h8
        go_wp2
        go_roundw
        case rel => exact ⟨k + 1, lv', ns', last', by omega, by go_num, H7, ⟨by have := H8.out; have := TN.out; omega⟩⟩
        case measure => simp [intOf]; omega
    · obtain rfl : k = n := by omega
      go_wp2
      go_ret2
      exact ⟨p, bm, lm, rm, q, lv, ns, last, rfl, hT.out, TN.out⟩
/-- Deaths copied, with marks behind their reasons. -/
structure CopM (w0 w : World) (v : Value) (vs : List Dv) (ds : List Dth) : Prop where
  own : Own w 48 eDv v vs
  len : vs.length = ds.length
  tx : ∀ (i : Nat) x d, vs[i]? = some x → ds[i]? = some d → x.p = d.p ∧ ∃ g, x.A = some ⟨g, 0, none⟩ ∧ LentM w g x.n x.c d.r ∧ w0.heap.size ≤ g
  fr : Fresh w0 v
theorem CopM.rd {w0 w : World} {v : Value} {vs : List Dv} {ds : List Dth} (h : CopM w0 w v vs ds) : RdD w vs ds := ⟨h.len, fun i x d hx hd => by
  obtain ⟨h1, g, h2, h3, _⟩ := h.tx i x d hx hd
  exact ⟨h1, h3.hn, by rw [h2]; exact h3.src⟩⟩
theorem CopM.frame {w0 w w' : World} {v : Value} {vs : List Dv} {ds : List Dth} {F : Nat → Prop} (h : CopM w0 w v vs ds) (hc : Chg F w w') (hv : ∀ g, v.ownBlock = some g → ¬ F g) (hF : ∀ (i : Nat) x g, vs[i]? = some x → x.A = some ⟨g, 0, none⟩ → ¬ F g) : CopM w0 w' v vs ds :=
  ⟨h.own.frame hc hv, h.len, fun i x d hx hd => by
    obtain ⟨h1, g, h2, h3, h4⟩ := h.tx i x d hx hd
    exact ⟨h1, g, h2, h3.frame hc (hF i x g hx h2), h4⟩, h.fr⟩
theorem CopM.below {w0 w w' : World} {v : Value} {vs : List Dv} {ds : List Dth} (h : CopM w0 w v vs ds) (hb : Below w.heap.size w w') : CopM w0 w' v vs ds := h.frame (Chg.of_below hb NoF) (fun _ _ h => h) (fun _ _ _ _ _ h => h)
theorem CopM.snoc {w0 w w1 w' : World} {v v' : Value} {vs : List Dv} {ds : List Dth} {x : Dv} {d : Dth} {g : Nat} (h : CopM w0 w v vs ds) (hs : w0.heap.size ≤ w.heap.size) (hb : Below w.heap.size w w1) (hl : LentM w1 g x.n x.c d.r) (hg : w.heap.size ≤ g) (hA : x.A = some ⟨g, 0, none⟩) (hp : x.p = d.p)
    (ho : Own w' 48 eDv v' (vs ++ [x])) (hc : Chg (fun k => v.ownBlock = some k) w1 w') (h3 : v'.ownBlock = v.ownBlock ∨ ∃ k, v'.ownBlock = some k ∧ w.heap.size ≤ k) : CopM w0 w' v' (vs ++ [x]) (ds ++ [d]) := by
  have off : ∀ k, v.ownBlock = some k → ∀ cur, w1.heap[k]? ≠ some (.cells cur 63 (0, 0)) := fun k hk cur hcur => by
    obtain ⟨cur', h9⟩ := (h.own.below hb).blk' hk
    rw [h9] at hcur; cases hcur
  have lfr : ∀ {k n c : Nat} {t : List Ce}, LentM w1 k n c t → LentM w' k n c t := fun {k n c t} hl => hl.frame hc (fun hk => by
    obtain ⟨cur, h9⟩ := hl.own.blk
    exact off _ hk cur h9)
  refine ⟨ho, by rw [List.length_append, List.length_append, h.len]; rfl, fun i y e hy he => ?_, h.fr.app hs h3⟩
  rcases Nat.lt_or_ge i vs.length with hi | hi
  · rw [List.getElem?_append_left hi] at hy
    rw [List.getElem?_append_left (h.len ▸ hi)] at he
    obtain ⟨h1, k, h2, h4, h5⟩ := h.tx i y e hy he
    exact ⟨h1, k, h2, lfr (h4.below hb), h5⟩
  · rw [List.getElem?_append_right hi] at hy
    rw [List.getElem?_append_right (h.len ▸ hi)] at he
    obtain ⟨hi1, hy⟩ := List.getElem?_eq_some_iff.1 hy
    obtain ⟨hi2, he⟩ := List.getElem?_eq_some_iff.1 he
    simp only [List.length_singleton] at hi1
    simp only [List.getElem_singleton] at hy he
    subst hy; subst he
    exact ⟨hp, g, hA, lfr hl, Nat.le_trans hs hg⟩
def CopPost (w : World) (ds : List Dth) (e : Ending) (w' : World) : Prop := ∃ v vs, e = .returned v ∧ CopM w w' v vs ds ∧ Below w.heap.size w w'
set_option maxRecDepth 100000 in
set_option maxHeartbeats 8000000 in
theorem copied_any (w : World) (A : Option Addr) (c : Nat) (vs0 : List Dv) (ds : List Dth) (hs : Src w eDv A c vs0) (hr : RdD w vs0 ds) (hn : vs0.length ≤ 4398046511000) (h4 : ∀ d ∈ ds, TxG d.r ∧ d.r.length ≤ 4398046511000) :
    Calls Tryz.prog 5 #[.slice A vs0.length c] w (CopPost w ds) := by
  have HS := Kp.mk hs
  have HR := Kp.mk hr
  have H4 := Kp.mk h4
  clear hs hr h4
  obtain ⟨n, hnn⟩ : ∃ n, n = vs0.length := ⟨_, rfl⟩
  have HN := Kp.mk hnn
  rw [← hnn] at hn ⊢
  clear hnn
  go_enter Tryz.func5, Tryz.ntmps5
  go_wp2
  go_loopw [3, 5, 8] (fun l _ i wr => ∃ (k : Nat) (B : Option Addr) (d : Nat) (vs : List Dv), k ≤ n ∧ i = .int .i64 k ∧ l = .slice B k d ∧ Kp (CopM w wr (.slice B k d) vs (ds.take k)) ∧ Kp (Below w.heap.size w wr)) (fun _ _ i _ => n - (intOf i).toNat)
  case atStart => exact ⟨0, none, 0, [], Nat.zero_le _, rfl, rfl, ⟨⟨Own.nil _ _ _, rfl, fun i x d h => (by simp at h), Fresh.nil _ _ _⟩⟩, ⟨Below.refl _ _⟩⟩
  case round =>
    obtain ⟨k, B, dc, vs, hk, rfl, rfl, HC, HB⟩ := hrel
    by_cases hlt : k < n
    · obtain ⟨x, hx⟩ : ∃ x, vs0[k]? = some x := ⟨_, List.getElem?_eq_getElem (by have := HN.out; omega)⟩
      obtain ⟨d, hd⟩ : ∃ d, ds[k]? = some d := ⟨_, List.getElem?_eq_getElem (by have := HN.out; have := HR.out.len; omega)⟩
      obtain ⟨ad, rfl⟩ : ∃ ad, A = some ad := by
        cases A with
        | none => have h9 := (HS.out.none rfl).1; rw [h9] at hx; simp at hx
        | some ad => exact ⟨ad, rfl⟩
      obtain ⟨g, o, rfl⟩ := HS.out.addr (by have := HN.out; omega)
      obtain ⟨a0, a1⟩ := (HS.out.below HB.out).dv k x hx
      obtain ⟨p1, p2, p3⟩ := HR.out.at_ k x d hx hd
      obtain ⟨xp, xA, xn, xc⟩ := x
      obtain ⟨dp, dr⟩ := d
      simp only at a0 a1 p1 p2 p3
      subst p1; subst p2
      have hb0 : Below wr.heap.size wr (wr.alloc (.cells #[.int .i64 xp, .slice xA dr.length xc] 48)).drew := ((Below.refl _ _).alloc (Nat.le_refl _) _).drew
      have HB0 := Kp.mk (bstep HB.out HB.out.size hb0)
      have HC0 := Kp.mk (HC.out.below hb0)
      have HX : Kp ((wr.alloc (.cells #[.int .i64 xp, .slice xA dr.length xc] 48)).drew.heap[wr.heap.size]? = some (.cells #[.int .i64 xp, .slice xA dr.length xc] 48 (0, 0))) := ⟨blk_new wr _⟩
      have S2 := Kp.mk (lent_any (wr.alloc (.cells #[.int .i64 xp, .slice xA dr.length xc] 48)).drew xA xc dr (p3.below HB0.out) (H4.out _ (List.mem_of_getElem? hd)).2)
      have HD := Kp.mk hd
      have k0 : (0 : Int) ≤ (k : Int) := by omega
      have k1 : (k : Int) < (n : Int) := by omega
      have hvl : vs.length = k := by rw [HC.out.len, List.length_take]; have := HN.out; have := HR.out.len; omega
      clear hx hd p3 hb0
      go_upto_region 5 with fail
      obtain ⟨W0, hW0⟩ : ∃ W0, W0 = (wr.alloc (.cells #[.int .i64 xp, .slice xA dr.length xc] 48)).drew := ⟨_, rfl⟩
      rw [← hW0] at HB0 HC0 HX S2
      have HW0 := Kp.mk hW0
      have AT : Kp (W0.cell? ⟨wr.heap.size, 0, none⟩ = some (.int .i64 xp) ∧ W0.cell? ⟨wr.heap.size, 1, none⟩ = some (.slice xA dr.length xc)) := ⟨blk_c HX.out 0, blk_c HX.out 1⟩
      clear hW0
      refine R_begin 999 (fun w9 => w9.cell? ⟨wr.heap.size, 0, none⟩ = some (.int .i64 xp) ∧ w9.cell? ⟨wr.heap.size, 1, none⟩ = some (.slice xA dr.length xc)) (by kernel_rfl) (by rw [← HW0.out]; exact AT.out) (fun HP0 => ?_)
      refine R_pure 0 rfl (by kernel_rfl) HP0 ?_
      apply Exists.intro
      refine ⟨fun _ _ _ h => h, .inl ⟨by kernel_rfl, fun w9 h9 => ?_⟩, fun HP1 => ?_⟩
      · clear h9; go_simp; first | done | rfl
      clear HP0
      refine R_pure 1 rfl (by kernel_rfl) HP1 ?_
      apply Exists.intro
      refine ⟨fun _ _ _ h => h, .inl ⟨by kernel_rfl, fun w9 h9 => ?_⟩, fun HP2 => ?_⟩
      · clear h9; go_simp; first | done | rfl
      clear HP1
      refine R_take 2 rfl (by kernel_rfl) HP2 ?_
      apply Exists.intro
      refine ⟨fun _ _ _ h => h, .inl ⟨by kernel_rfl, fun w9 h9 => ?_⟩, fun HP3 => ?_⟩
      · obtain ⟨s1, s2⟩ := h9; go_simp; first | done | rfl
      clear HP2
      refine R_pure 3 rfl (by kernel_rfl) HP3 ?_
      apply Exists.intro
      refine ⟨fun _ _ _ h => h, .inl ⟨by kernel_rfl, fun w9 h9 => ?_⟩, fun HP4 => ?_⟩
      · clear h9; go_simp; first | done | rfl
      clear HP3
      refine R_take 4 rfl (by kernel_rfl) HP4 ?_
      apply Exists.intro
      refine ⟨fun _ _ _ h => h, .inl ⟨by kernel_rfl, fun w9 h9 => ?_⟩, fun HP5 => ?_⟩
      · obtain ⟨s1, s2⟩ := h9; go_simp; first | done | rfl
      clear HP4
      refine R_all [5] (by kernel_rfl) ?_
      refine AllR.cons (i := 5) rfl (fun K9 HK9 => ?_) ?_
      · go_simp
        rw [← HW0.out]
        refine S2.out.mono ?_
        rintro e w5 ⟨g5, n5, c5, rfl, l5, hg5, b5⟩
        have L5 := Kp.mk l5
        have G5 := Kp.mk hg5
        have B5 := Kp.mk b5
        have C5 := Kp.mk (HC0.out.below b5)
        have X5 : Kp (w5.heap[wr.heap.size]? = some (.cells #[.int .i64 xp, .slice xA dr.length xc] 48 (0, 0))) := ⟨(b5.block _ (lt_of_block HX.out)).trans HX.out⟩
        obtain ⟨v6, w6, hr6, o6, c6, f6⟩ := run_app1 (ty := 24) TDv (⟨xp, some ⟨g5, 0, none⟩, n5, c5⟩ : Dv) (cs := #[.int .i64 xp, .slice (some ⟨g5, 0, none⟩) n5 c5]) C5.out.own rfl (by omega) (by omega)
        obtain ⟨A6, n6, hv6, _⟩ := o6.shape
        rw [List.length_append, List.length_singleton, hvl] at hv6
        subst hv6
        have O6 := Kp.mk o6
        have C6 := Kp.mk c6
        have F6 := Kp.mk f6
        have X6 : Kp (w6.heap[wr.heap.size]? = some (.cells #[.int .i64 xp, .slice xA dr.length xc] 48 (0, 0))) := ⟨c6.at X5.out (fun h => by have h1 := HC.out.own.lt h; omega)⟩
        clear l5 hg5 b5 o6 c6 f6
        go_simp
        refine HK9.out _ _ (.inr ⟨blk_c X5.out 0, blk_c X5.out 1⟩) (fun HP6 => ?_)
        clear HK9 K9
        refine R_pure 6 rfl (by kernel_rfl) HP6 ?_
        apply Exists.intro
        refine ⟨fun _ _ _ h => h, .inl ⟨by kernel_rfl, fun w9 h9 => ?_⟩, fun HP7 => ?_⟩
        · clear h9; go_simp; first | done | rfl
        clear HP6
        refine R_all [7] (by kernel_rfl) ?_
        refine AllR.cons (i := 7) rfl (fun K9 HK9 => ?_) ?_
        · go_simp
          refine HK9.out _ _ (.inr ⟨blk_c (blk_alloc X5.out _) 0, blk_c (blk_alloc X5.out _) 1⟩) (fun HP8 => ?_)
          clear HK9 K9
          refine R_all [8] (by kernel_rfl) ?_
          refine AllR.cons (i := 8) rfl (fun K9 HK9 => ?_) ?_
          · rw [if_pos (by kernel_rfl)]
            refine app_wp (P := Tryz.prog) (w := w5.alloc (.cells #[.int .i64 xp, .slice (some ⟨g5, 0, none⟩) n5 c5] 48)) (w' := w6) (v := .slice B k dc) (u := .slice (some ⟨w5.heap.size, 0, none⟩) 1 1) (t := 24) (Operand.tmp 12) (Operand.tmp 19) rfl rfl rfl hr6 ?_
            refine HK9.out _ _ (.inr ⟨blk_c X6.out 0, blk_c X6.out 1⟩) (fun HP9 => ?_)
            clear HK9 K9
            refine R_pure 9 rfl (by kernel_rfl) HP9 ?_
            apply Exists.intro
            refine ⟨fun _ _ _ h => h, .inl ⟨by kernel_rfl, fun w9 h9 => ?_⟩, fun HP10 => ?_⟩
            · clear h9; go_simp; first | done | rfl
            clear HP9
            refine R_done (by kernel_rfl) ?_
            go_wp2
            go_roundw
            case rel =>
              refine ⟨k + 1, A6, n6, vs ++ [⟨xp, some ⟨g5, 0, none⟩, n5, c5⟩], by omega, by go_num, rfl, ⟨?_⟩, ⟨chg_below (bstep HB0.out HB0.out.size B5.out) C6.out (fun g9 hg9 => HC.out.fr g9 hg9) (bstep HB0.out HB0.out.size B5.out).size⟩⟩
              rw [List.take_add_one, HD.out]
              exact HC0.out.snoc HB0.out.size B5.out L5.out G5.out rfl rfl O6.out C6.out (by
                rcases F6.out with h | ⟨g9, h, hg9⟩
                · exact .inl h
                · exact .inr ⟨g9, h, Nat.le_trans B5.out.size hg9⟩)
            case measure => simp [intOf]; omega
          exact AllR.nil
        exact AllR.nil
      exact AllR.nil
    · have HT : Kp (ds.take k = ds) := ⟨List.take_of_length_le (by have := HN.out; have := HR.out.len; omega)⟩
      rw [HT.out] at HC
      go_wp2
      go_ret
      exact ⟨_, vs, rfl, HC.out, HB.out⟩
set_option maxRecDepth 100000 in
set_option maxHeartbeats 4000000 in
theorem bonds_any (w : World) (A B : Option Addr) (c d : Nat) (a : List Bd) (ha : Src w eBd A c a) (hb : Src w eBd B d a) (hn : a.length ≤ 9000000000000) :
    Calls Tryz.prog 11 #[.slice A a.length c, .slice B a.length d] w fun e w' => e = .returned (.bool true) ∧ Below w.heap.size w w' := by
  have HA := Kp.mk ha
  have HB := Kp.mk hb
  clear ha hb
  obtain ⟨n, hnn⟩ : ∃ n, n = a.length := ⟨_, rfl⟩
  have HN := Kp.mk hnn
  rw [← hnn] at hn ⊢
  clear hnn
  go_enter Tryz.func11, Tryz.ntmps11
  go_wp2
  go_loopw [5, 13] (fun _ i wr => ∃ k : Nat, k ≤ n ∧ i = .int .i64 k ∧ Kp (Below w.heap.size w wr)) (fun _ i _ => n - (intOf i).toNat)
  case atStart => exact ⟨0, Nat.zero_le _, rfl, ⟨Below.refl _ _⟩⟩
  case round =>
    obtain ⟨k, hk, rfl, HBW⟩ := hrel
    by_cases hlt : k < n
    · obtain ⟨x, hx⟩ : ∃ x, a[k]? = some x := ⟨_, List.getElem?_eq_getElem (by have := HN.out; omega)⟩
      obtain ⟨ad, rfl⟩ : ∃ ad, A = some ad := by
        cases A with
        | none => have h9 := (HA.out.none rfl).1; rw [h9] at hx; simp at hx
        | some ad => exact ⟨ad, rfl⟩
      obtain ⟨g, o, rfl⟩ := HA.out.addr (by have := HN.out; omega)
      obtain ⟨bd, rfl⟩ : ∃ bd, B = some bd := by
        cases B with
        | none => have h9 := (HB.out.none rfl).1; rw [h9] at hx; simp at hx
        | some ad => exact ⟨ad, rfl⟩
      obtain ⟨g', o', rfl⟩ := HB.out.addr (by have := HN.out; omega)
      obtain ⟨a0, a1, a2⟩ := (HA.out.below HBW.out).bd k x hx
      obtain ⟨b0, b1, b2⟩ := (HB.out.below HBW.out).bd k x hx
      have k0 : (0 : Int) ≤ (k : Int) := by omega
      have k1 : (k : Int) < (n : Int) := by omega
      clear hx
      go_wp2
      go_quiet (fail)
      go_wp2
      go_roundw
      case rel => exact ⟨k + 1, by omega, by go_num, ⟨HBW.out.trans ⟨rfl, rfl, rfl, Nat.le_refl _, fun _ _ => rfl⟩⟩⟩
      case measure => simp [intOf]; omega
    · go_wp2
      go_ret
      exact ⟨rfl, HBW.out⟩
set_option maxRecDepth 100000 in
set_option maxHeartbeats 8000000 in
theorem deaths_any (w : World) (A B : Option Addr) (c d : Nat) (vs us : List Dv) (ds : List Dth) (ha : Src w eDv A c vs) (hb : Src w eDv B d us) (ra : RdD w vs ds) (rb : RdD w us ds) (hn : ds.length ≤ 9000000000000) (h4 : ∀ d ∈ ds, d.r.length ≤ 9000000000000) :
    Calls Tryz.prog 9 #[.slice A vs.length c, .slice B us.length d] w fun e w' => e = .returned (.bool true) ∧ Below w.heap.size w w' := by
  have HA := Kp.mk ha
  have HB := Kp.mk hb
  have RA := Kp.mk ra
  have RB := Kp.mk rb
  have H4 := Kp.mk h4
  rw [ra.len, rb.len]
  clear ha hb ra rb h4
  obtain ⟨n, hnn⟩ : ∃ n, n = ds.length := ⟨_, rfl⟩
  have HN := Kp.mk hnn
  rw [← hnn] at hn ⊢
  clear hnn
  go_enter Tryz.func9, Tryz.ntmps9
  go_wp2
  go_loopw [5, 13] (fun _ i wr => ∃ k : Nat, k ≤ n ∧ i = .int .i64 k ∧ Kp (Below w.heap.size w wr)) (fun _ i _ => n - (intOf i).toNat)
  case atStart => exact ⟨0, Nat.zero_le _, rfl, ⟨Below.refl _ _⟩⟩
  case round =>
    obtain ⟨k, hk, rfl, HBW⟩ := hrel
    by_cases hlt : k < n
    · obtain ⟨x, hx⟩ : ∃ x, vs[k]? = some x := ⟨_, List.getElem?_eq_getElem (by have := HN.out; have := RA.out.len; omega)⟩
      obtain ⟨y, hy⟩ : ∃ y, us[k]? = some y := ⟨_, List.getElem?_eq_getElem (by have := HN.out; have := RB.out.len; omega)⟩
      obtain ⟨dd, hd⟩ : ∃ d, ds[k]? = some d := ⟨_, List.getElem?_eq_getElem (by have := HN.out; omega)⟩
      obtain ⟨ad, rfl⟩ : ∃ ad, A = some ad := by
        cases A with
        | none => have h9 := (HA.out.none rfl).1; rw [h9] at hx; simp at hx
        | some ad => exact ⟨ad, rfl⟩
      obtain ⟨g, o, rfl⟩ := HA.out.addr (by have := (List.getElem?_eq_some_iff.1 hx).1; omega)
      obtain ⟨bd, rfl⟩ : ∃ bd, B = some bd := by
        cases B with
        | none => have h9 := (HB.out.none rfl).1; rw [h9] at hy; simp at hy
        | some ad => exact ⟨ad, rfl⟩
      obtain ⟨g', o', rfl⟩ := HB.out.addr (by have := (List.getElem?_eq_some_iff.1 hy).1; omega)
      have HW0 := Kp.mk HBW.out.drew
      obtain ⟨a0, a1⟩ := (HA.out.below HW0.out).dv k x hx
      obtain ⟨b0, b1⟩ := (HB.out.below HW0.out).dv k y hy
      obtain ⟨p1, p2, p3⟩ := RA.out.at_ k x dd hx hd
      obtain ⟨q1, q2, q3⟩ := RB.out.at_ k y dd hy hd
      obtain ⟨xp, xA, xn, xc⟩ := x
      obtain ⟨yp, yA, yn, yc⟩ := y
      obtain ⟨dp, dr⟩ := dd
      simp only at a0 a1 b0 b1 p1 p2 p3 q1 q2 q3
      subst q1; subst p1; subst p2; subst q2
      have hsm := same_any wr.drew xA yA xc yc dr dr (p3.below HW0.out) (q3.below HW0.out) (H4.out _ (List.mem_of_getElem? hd))
      rw [decide_eq_true rfl] at hsm
      have HSM := Kp.mk hsm
      have AT := Kp.mk (And.intro a0 (And.intro a1 (And.intro b0 b1)))
      have KP : Kp (∀ w', Below w.heap.size w w' → w'.cell? ⟨g, o + k * 2, none⟩ = some (.int .i64 xp) ∧ w'.cell? ⟨g, o + k * 2 + 1, none⟩ = some (.slice xA dr.length xc) ∧ w'.cell? ⟨g', o' + k * 2, none⟩ = some (.int .i64 xp) ∧ w'.cell? ⟨g', o' + k * 2 + 1, none⟩ = some (.slice yA dr.length yc)) := ⟨fun w' hw => by
        obtain ⟨a0, a1⟩ := (HA.out.below hw).dv k _ hx
        obtain ⟨b0, b1⟩ := (HB.out.below hw).dv k _ hy
        exact ⟨a0, a1, b0, b1⟩⟩
      have k0 : (0 : Int) ≤ (k : Int) := by omega
      have k1 : (k : Int) < (n : Int) := by omega
      clear hx hy hd p3 q3 a0 a1 b0 b1 hsm
      go_wp2
      refine R_begin 999 (fun w9 => w9.cell? ⟨g, o + k * 2, none⟩ = some (.int .i64 xp) ∧ w9.cell? ⟨g, o + k * 2 + 1, none⟩ = some (.slice xA dr.length xc) ∧ w9.cell? ⟨g', o' + k * 2, none⟩ = some (.int .i64 xp) ∧ w9.cell? ⟨g', o' + k * 2 + 1, none⟩ = some (.slice yA dr.length yc)) (by kernel_rfl) AT.out (fun HP0 => ?_)
      refine R_pure 0 rfl (by kernel_rfl) HP0 ?_
      apply Exists.intro
      refine ⟨fun _ _ _ h => h, .inl ⟨by kernel_rfl, fun w9 h9 => ?_⟩, fun HP1 => ?_⟩
      · clear h9; go_simp; first | done | rfl
      clear HP0
      refine R_pure 1 rfl (by kernel_rfl) HP1 ?_
      apply Exists.intro
      refine ⟨fun _ _ _ h => h, .inl ⟨by kernel_rfl, fun w9 h9 => ?_⟩, fun HP2 => ?_⟩
      · clear h9; go_simp; first | done | rfl
      clear HP1
      refine R_pure 2 rfl (by kernel_rfl) HP2 ?_
      apply Exists.intro
      refine ⟨fun _ _ _ h => h, .inl ⟨by kernel_rfl, fun w9 h9 => ?_⟩, fun HP3 => ?_⟩
      · clear h9; go_simp; first | done | rfl
      clear HP2
      refine R_pure 3 rfl (by kernel_rfl) HP3 ?_
      apply Exists.intro
      refine ⟨fun _ _ _ h => h, .inl ⟨by kernel_rfl, fun w9 h9 => ?_⟩, fun HP4 => ?_⟩
      · clear h9; go_simp; first | done | rfl
      clear HP3
      refine R_take 4 rfl (by kernel_rfl) HP4 ?_
      apply Exists.intro
      refine ⟨fun _ _ _ h => h, .inl ⟨by kernel_rfl, fun w9 h9 => ?_⟩, fun HP5 => ?_⟩
      · obtain ⟨s1, s2, s3, s4⟩ := h9; go_simp; first | done | rfl
      clear HP4
      refine R_pure 5 rfl (by kernel_rfl) HP5 ?_
      apply Exists.intro
      refine ⟨fun _ _ _ h => h, .inl ⟨by kernel_rfl, fun w9 h9 => ?_⟩, fun HP6 => ?_⟩
      · clear h9; go_simp; first | done | rfl
      clear HP5
      refine R_pure 6 rfl (by kernel_rfl) HP6 ?_
      apply Exists.intro
      refine ⟨fun _ _ _ h => h, .inl ⟨by kernel_rfl, fun w9 h9 => ?_⟩, fun HP7 => ?_⟩
      · clear h9; go_simp; first | done | rfl
      clear HP6
      refine R_pure 7 rfl (by kernel_rfl) HP7 ?_
      apply Exists.intro
      refine ⟨fun _ _ _ h => h, .inl ⟨by kernel_rfl, fun w9 h9 => ?_⟩, fun HP8 => ?_⟩
      · clear h9; go_simp; first | done | rfl
      clear HP7
      refine R_pure 8 rfl (by kernel_rfl) HP8 ?_
      apply Exists.intro
      refine ⟨fun _ _ _ h => h, .inl ⟨by kernel_rfl, fun w9 h9 => ?_⟩, fun HP9 => ?_⟩
      · clear h9; go_simp; first | done | rfl
      clear HP8
      refine R_take 9 rfl (by kernel_rfl) HP9 ?_
      apply Exists.intro
      refine ⟨fun _ _ _ h => h, .inl ⟨by kernel_rfl, fun w9 h9 => ?_⟩, fun HP10 => ?_⟩
      · obtain ⟨s1, s2, s3, s4⟩ := h9; go_simp; first | done | rfl
      clear HP9
      refine R_pure 10 rfl (by kernel_rfl) HP10 ?_
      apply Exists.intro
      refine ⟨fun _ _ _ h => h, .inl ⟨by kernel_rfl, fun w9 h9 => ?_⟩, fun HP11 => ?_⟩
      · clear h9; go_simp; first | done | rfl
      clear HP10
      refine R_pure 11 rfl (by kernel_rfl) HP11 ?_
      apply Exists.intro
      refine ⟨fun _ _ _ h => h, .inl ⟨by kernel_rfl, fun w9 h9 => ?_⟩, fun HP12 => ?_⟩
      · clear h9; go_simp; first | done | rfl
      clear HP11
      refine R_pure 12 rfl (by kernel_rfl) HP12 ?_
      apply Exists.intro
      refine ⟨fun _ _ _ h => h, .inl ⟨by kernel_rfl, fun w9 h9 => ?_⟩, fun HP13 => ?_⟩
      · clear h9; go_simp; first | done | rfl
      clear HP12
      refine R_pure 13 rfl (by kernel_rfl) HP13 ?_
      apply Exists.intro
      refine ⟨fun _ _ _ h => h, .inl ⟨by kernel_rfl, fun w9 h9 => ?_⟩, fun HP14 => ?_⟩
      · clear h9; go_simp; first | done | rfl
      clear HP13
      refine R_pure 14 rfl (by kernel_rfl) HP14 ?_
      apply Exists.intro
      refine ⟨fun _ _ _ h => h, .inl ⟨by kernel_rfl, fun w9 h9 => ?_⟩, fun HP15 => ?_⟩
      · clear h9; go_simp; first | done | rfl
      clear HP14
      refine R_pure 15 rfl (by kernel_rfl) HP15 ?_
      apply Exists.intro
      refine ⟨fun _ _ _ h => h, .inl ⟨by kernel_rfl, fun w9 h9 => ?_⟩, fun HP16 => ?_⟩
      · clear h9; go_simp; first | done | rfl
      clear HP15
      refine R_take 16 rfl (by kernel_rfl) HP16 ?_
      apply Exists.intro
      refine ⟨fun _ _ _ h => h, .inl ⟨by kernel_rfl, fun w9 h9 => ?_⟩, fun HP17 => ?_⟩
      · obtain ⟨s1, s2, s3, s4⟩ := h9; go_simp; first | done | rfl
      clear HP16
      refine R_pure 17 rfl (by kernel_rfl) HP17 ?_
      apply Exists.intro
      refine ⟨fun _ _ _ h => h, .inl ⟨by kernel_rfl, fun w9 h9 => ?_⟩, fun HP18 => ?_⟩
      · clear h9; go_simp; first | done | rfl
      clear HP17
      refine R_pure 18 rfl (by kernel_rfl) HP18 ?_
      apply Exists.intro
      refine ⟨fun _ _ _ h => h, .inl ⟨by kernel_rfl, fun w9 h9 => ?_⟩, fun HP19 => ?_⟩
      · clear h9; go_simp; first | done | rfl
      clear HP18
      refine R_pure 19 rfl (by kernel_rfl) HP19 ?_
      apply Exists.intro
      refine ⟨fun _ _ _ h => h, .inl ⟨by kernel_rfl, fun w9 h9 => ?_⟩, fun HP20 => ?_⟩
      · clear h9; go_simp; first | done | rfl
      clear HP19
      refine R_pure 20 rfl (by kernel_rfl) HP20 ?_
      apply Exists.intro
      refine ⟨fun _ _ _ h => h, .inl ⟨by kernel_rfl, fun w9 h9 => ?_⟩, fun HP21 => ?_⟩
      · clear h9; go_simp; first | done | rfl
      clear HP20
      refine R_take 21 rfl (by kernel_rfl) HP21 ?_
      apply Exists.intro
      refine ⟨fun _ _ _ h => h, .inl ⟨by kernel_rfl, fun w9 h9 => ?_⟩, fun HP22 => ?_⟩
      · obtain ⟨s1, s2, s3, s4⟩ := h9; go_simp; first | done | rfl
      clear HP21
      refine R_all [22] (by kernel_rfl) ?_
      refine AllR.cons (i := 22) rfl (fun K9 HK9 => ?_) ?_
      · go_simp
        refine HSM.out.mono ?_
        rintro e w5 ⟨rfl, b5⟩
        have B5 := Kp.mk (bstep HW0.out HW0.out.size b5)
        clear b5
        refine HK9.out _ _ (.inr (KP.out _ B5.out)) (fun HP23 => ?_)
        clear HK9 K9
        refine R_pure 23 rfl (by kernel_rfl) HP23 ?_
        apply Exists.intro
        refine ⟨fun _ _ _ h => h, .inl ⟨by kernel_rfl, fun w9 h9 => ?_⟩, fun HP24 => ?_⟩
        · clear h9; go_simp; first | done | rfl
        clear HP23
        refine R_pure 24 rfl (by kernel_rfl) HP24 ?_
        apply Exists.intro
        refine ⟨fun _ _ _ h => h, .inl ⟨by kernel_rfl, fun w9 h9 => ?_⟩, fun HP25 => ?_⟩
        · clear h9; go_simp; first | done | rfl
        clear HP24
        refine R_done (by kernel_rfl) ?_
        go_wp2
        go_roundw
        case rel => exact ⟨k + 1, by omega, by go_num, B5⟩
        case measure => simp [intOf]; omega
      exact AllR.nil
    · go_wp2
      go_ret
      exact ⟨rfl, HBW.out⟩
end Go.Proofs.YtameidoaenoppaaGreatDoor
