/- The document's out, Drop, Gone, Find, Name of names walked; bounds stand in the statements. -/
import Derived.Test.YtmkfpaohlmejkaaDoorRa
import Derived.Test.YtmkfpaohlmejkaaDoorD
namespace Go.Proofs.YtmkfpaohlmejkaaDoor
open Go.RowKit

section
variable {α : Type} {w : World} {E : El α} {A : Option Addr} {c c' : Nat} {l : List α}
theorem El.flat_take (E : El α) (l : List α) (i : Nat) (j : Nat) (u : Value) (h : (E.flat (l.take i))[j]? = some u) : (E.flat l)[j]? = some u := by
  have e : E.flat l = E.flat (l.take i) ++ E.flat (l.drop i) := by rw [← E.flat_append, List.take_append_drop]
  rw [e, List.getElem?_append_left (List.getElem?_eq_some_iff.1 h).1]
  exact h
theorem El.flat_drop (E : El α) (l : List α) (i : Nat) (hi : i ≤ l.length) (j : Nat) : (E.flat (l.drop i))[j]? = (E.flat l)[i * E.k + j]? := by
  have e : E.flat l = E.flat (l.take i) ++ E.flat (l.drop i) := by rw [← E.flat_append, List.take_append_drop]
  have hl : (E.flat (l.take i)).length = i * E.k := by rw [E.flat_length, List.length_take, Nat.min_eq_left hi]
  rw [e, List.getElem?_append_right (by omega), hl, Nat.add_sub_cancel_left]
theorem Src.take (h : Src w E A c l) (i : Nat) : Src w E A c (l.take i) :=
  ⟨fun ad ha j u hu => h.cell ad ha j u (E.flat_take l i j u hu), fun ha => by rw [(h.none ha).1]; exact ⟨List.take_nil, (h.none ha).2⟩⟩
theorem Src.drop {g o : Nat} (h : Src w E (some ⟨g, o, Option.none⟩) c l) (i : Nat) (hi : i ≤ l.length) : Src w E (some ⟨g, o + i * E.k, Option.none⟩) c' (l.drop i) :=
  ⟨fun ad ha j u hu => by
    cases ha
    rw [E.flat_drop l i hi] at hu
    have := h.cell _ rfl _ u hu
    rw [Addr.add_lit] at this ⊢
    rw [Nat.add_assoc]
    exact this, fun ha => by cases ha⟩
theorem Src.empty {ad : Addr} : Src w E (some ad) c ([] : List α) := ⟨fun _ _ j u hu => by simp [El.flat] at hu, fun ha => by cases ha⟩
end
def DOutPost (w : World) (q : Nat) (lv : Value) (l' : List En) (e : Ending) (w' : World) : Prop :=
  (∃ v, e = .returned v) ∧ ∃ lv', IsD w' q lv' l' ∧ Fresh w lv' ∧ Chg (FD q lv) w w'
set_option maxRecDepth 100000 in
set_option maxHeartbeats 2000000 in
theorem dout_any (w : World) (q : Nat) (lv : Value) (l : List En) (i : Nat) (h : IsD w q lv l) (hi : i < l.length) (hn : l.length ≤ 1000000) :
    Calls Tryd.prog 29 #[.pointer (some ⟨q, 0, none⟩), .int .i64 i] w (DOutPost w q lv (l.take i ++ l.drop (i + 1))) := by
  obtain ⟨A, c, hv, q0⟩ := h.sh
  have ho := h.own
  rw [hv] at ho
  obtain ⟨g, rfl⟩ : ∃ g, A = some ⟨g, 0, none⟩ := by
    obtain ⟨A2, c2, hv2, _, _, hs0, hs1⟩ := ho.shape
    have ea : A = A2 := by injection hv2
    cases hA : A2 with
    | none => have h1 := (hs0 hA).1; rw [h1] at hi; simp at hi
    | some x => obtain ⟨g, rfl⟩ := hs1 x hA; exact ⟨g, by rw [ea, hA]⟩
  have hs := ho.src rfl
  obtain ⟨_, c2, hv2, hc, _⟩ := ho.shape
  obtain rfl : c = c2 := by injection hv2
  have src1 := hs.take i
  have hown0 : Own w 45 eEn (.slice none 0 0) [] := Own.nil _ _ _
  have hl1 : (l.take i).length = i := by rw [List.length_take]; omega
  have k0 : (0 : Int) ≤ (i : Int) := by omega
  have k1 : (i : Int) ≤ (c : Int) := by omega
  have k2 : i ≤ c := by omega
  have k3 : (i : Int) + 1 ≤ (l.length : Int) := by omega
  have k4 : i + 1 ≤ l.length := by omega
  have hpl := h.lt
  have HH := Kp.mk h
  have HV := Kp.mk hv
  have HS := Kp.mk hs
  have HNE := Kp.mk h.ne
  clear h hv ho hv2 hs
  by_cases hcap : c = i + 1
  · have hdr : Kp (l.drop (i + 1) = []) := ⟨List.drop_eq_nil_of_le (by omega)⟩
    have hll : l.length = i + 1 := by omega
    rw [hdr.out]
    subst hcap
    rw [hll] at q0
    go_enter Tryd.func29, Tryd.ntmps29
    go_upto_region 2 with (at_builtin; refine app_ev T26 rfl _ _ rfl hown0 rfl src1 hl1.symm rfl (by simp only [List.length_nil]; omega) (by simp only [List.length_nil]; omega) ?_; intro A1 n1 c1 w1 a0 a1 a2 a3)
    obtain rfl : n1 = i := by have h1 := a0.out; rw [hl1] at h1; simpa using h1
    rw [List.nil_append] at a1
    have hb1 : Below w.heap.size w w1 := a2.below_all (fun k hk => by cases hk)
    have H1 := Kp.mk (HH.out.below hb1)
    have HB1 := Kp.mk hb1
    have q1 : w1.cell? ⟨q, 0, none⟩ = some (.slice (some ⟨g, 0, none⟩) (n1 + 1) (n1 + 1)) := by have h9 := H1.out.c0; rw [HV.out, hll] at h9; exact h9
    have HS1 := HS.out.below hb1
    have HF : Kp (Fresh w (.slice A1 n1 c1)) := ⟨fun g hg => by
      rcases a3 with h | ⟨g', h, h2⟩
      · rw [h] at hg; cases hg
      · rw [h] at hg; cases hg; exact h2⟩
    have src2 : Src w1 eEn (some ⟨g, 0, none⟩) 0 ([] : List En) := Src.empty
    clear hown0 src1 a0 a2 a3 hb1 q0 HS1
    go_upto_region 3 with (at_builtin; refine app_ev T26 rfl _ _ rfl a1 rfl src2 rfl rfl (by rw [hl1, List.length_nil]; omega) (by rw [hl1, List.length_nil]; omega) ?_; intro A2 n2 c2 w2 b0 b1 b2 b3)
    have B2 := b2.at H1.out.blk (fun h => by have h1 := HF.out q h; omega)
    have q2 := blk_c B2 0
    have z2 := blk_f B2 0
    have l2 := lt_of_block B2
    have H2 := IsD.set B2 b1
    have HF2 : Kp (Fresh w (.slice A2 n2 c2)) := ⟨HF.out.app HB1.out.size b3⟩
    have HC : Kp (Chg (FD q lv) w w2) := ⟨(Chg.of_below HB1.out _).trans b2 (fun n hn hF => by have h1 := HF.out n hF; omega)⟩
    have HH2 := Kp.mk H2
    clear b0 b1 b2 b3 H2 a1
    go_wp2
    go_end0
    exact ⟨⟨_, rfl⟩, _, HH2.out, HF2.out, HC.out.set (p := ⟨q, 0, none⟩) (.inl (.inl rfl)) _⟩
  · have k5 : ¬ ((c : Int) = (i : Int) + 1) := by omega
    have k6 : ¬ (i + 1 = c) := by omega
    have hl2 : (l.drop (i + 1)).length = l.length - (i + 1) := List.length_drop
    have k7 : (l.length : Int) ≤ (c : Int) := by omega
    have k8 : i + 1 ≤ c := by omega
    have k9 : (i : Int) + 1 ≤ (c : Int) := by omega
    go_enter Tryd.func29, Tryd.ntmps29
    go_upto_region 2 with (at_builtin; refine app_ev T26 rfl _ _ rfl hown0 rfl src1 hl1.symm rfl (by simp only [List.length_nil]; omega) (by simp only [List.length_nil]; omega) ?_; intro A1 n1 c1 w1 a0 a1 a2 a3)
    obtain rfl : n1 = i := by have h1 := a0.out; rw [hl1] at h1; simpa using h1
    rw [List.nil_append] at a1
    have hb1 : Below w.heap.size w w1 := a2.below_all (fun k hk => by cases hk)
    have H1 := Kp.mk (HH.out.below hb1)
    have HB1 := Kp.mk hb1
    have q1 : w1.cell? ⟨q, 0, none⟩ = some (.slice (some ⟨g, 0, none⟩) l.length c) := by rw [← HV.out]; exact H1.out.c0
    have HS1 := HS.out.below hb1
    have HF : Kp (Fresh w (.slice A1 n1 c1)) := ⟨fun g hg => by
      rcases a3 with h | ⟨g', h, h2⟩
      · rw [h] at hg; cases hg
      · rw [h] at hg; cases hg; exact h2⟩
    have src2 : Src w1 eEn (some ⟨g, 0 + (n1 + 1) * 2, none⟩) (c - (n1 + 1)) (l.drop (n1 + 1)) := HS1.drop (n1 + 1) (by omega)
    rw [Nat.zero_add] at src2
    clear hown0 src1 a0 a2 a3 hb1 q0 HS1
    go_upto_region 3 with (at_builtin; refine app_ev T26 rfl _ _ rfl a1 rfl src2 hl2.symm rfl (by rw [hl1, hl2]; omega) (by rw [hl1, hl2]; omega) ?_; intro A2 n2 c2 w2 b0 b1 b2 b3)
    have B2 := b2.at H1.out.blk (fun h => by have h1 := HF.out q h; omega)
    have q2 := blk_c B2 0
    have z2 := blk_f B2 0
    have l2 := lt_of_block B2
    have H2 := IsD.set B2 b1
    have HF2 : Kp (Fresh w (.slice A2 n2 c2)) := ⟨HF.out.app HB1.out.size b3⟩
    have HC : Kp (Chg (FD q lv) w w2) := ⟨(Chg.of_below HB1.out _).trans b2 (fun n hn hF => by have h1 := HF.out n hF; omega)⟩
    have HH2 := Kp.mk H2
    clear b0 b1 b2 b3 H2 a1
    go_wp2
    go_end0
    exact ⟨⟨_, rfl⟩, _, HH2.out, HF2.out, HC.out.set (p := ⟨q, 0, none⟩) (.inl (.inl rfl)) _⟩
section
variable {L : List En}
theorem atF_find {f : En → Prop} [DecidablePred f] {k : Int} (h : AtF L f k) : (∃ (i : Nat) (x : En), k = i ∧ L[i]? = some x ∧ f x ∧ L.find? (fun y => decide (f y)) = some x) ∨ (k = -1 ∧ L.find? (fun y => decide (f y)) = none) := by
  rcases h with ⟨i, x, rfl, hx, hf, hj⟩ | ⟨rfl, hn⟩
  · refine .inl ⟨i, x, rfl, hx, hf, ?_⟩
    rw [List.find?_eq_some_iff_getElem]
    obtain ⟨hi, he⟩ := List.getElem?_eq_some_iff.1 hx
    refine ⟨by simpa using hf, i, hi, he, fun j hji => ?_⟩
    have := hj j (L[j]) hji (List.getElem?_eq_getElem _)
    simpa using this
  · refine .inr ⟨rfl, ?_⟩
    rw [List.find?_eq_none]
    intro x hx
    simpa using hn x hx
theorem out_at (h : GOk L) {i : Nat} {x : En} (hx : L[i]? = some x) : outN L x.n = L.take i ++ L.drop (i + 1) := by
  obtain ⟨hi, he⟩ := List.getElem?_eq_some_iff.1 hx
  have e : L = L.take i ++ x :: L.drop (i + 1) := by
    rw [← he, ← List.drop_eq_getElem_cons hi, List.take_append_drop]
  have hn := h.names
  rw [e] at hn
  rw [List.pairwise_append] at hn
  obtain ⟨h1, h2, h3⟩ := hn
  obtain ⟨h4, h5⟩ := List.pairwise_cons.1 h2
  unfold outN
  conv => lhs; rw [e]
  rw [List.filter_append, List.filter_cons]
  rw [if_neg (by simp)]
  congr 1
  · rw [List.filter_eq_self]
    intro y hy
    simpa using h3 y hy x (.head _)
  · rw [List.filter_eq_self]
    intro y hy
    simpa using (fun e => h4 y hy e.symm : ¬ y.n = x.n)
end
/-- What a call of the document's leaves. -/
def DPost (w : World) (q : Nat) (lv : Value) (r : Value) (l' : List En) (e : Ending) (w' : World) : Prop :=
  e = .returned r ∧ ∃ lv', IsD w' q lv' l' ∧ (lv' = lv ∨ Fresh w lv') ∧ Chg (FD q lv) w w'
set_option maxHeartbeats 1000000 in
theorem ddrop_any (w : World) (q : Nat) (lv : Value) (l : List En) (s : ByteArray) (h : IsD w q lv l) (hk : GOk l) :
    Calls Tryd.prog 20 #[.pointer (some ⟨q, 0, none⟩), .string s] w (DPost w q lv (.int .i64 (dropE l s)) (outN l s)) := by
  have hn : l.length ≤ 1000000 := by have := hk.len; omega
  have H := Kp.mk h
  have HK := Kp.mk hk
  have HF := Kp.mk (dfind_any w q lv l s h hn)
  clear h hk
  go_enter Tryd.func20, Tryd.ntmps20
  go_wp2_with fail
  refine HF.out.mono ?_
  rintro e w1 ⟨k, hat, rfl, rfl⟩
  rcases atF_find hat with ⟨i, x, rfl, hx, hxs, hf⟩ | ⟨rfl, hf⟩
  · have hi := (List.getElem?_eq_some_iff.1 hx).1
    have hD := dout_any _ q lv l i H.out hi hn
    rw [← out_at HK.out hx, hxs] at hD
    have HD := Kp.mk hD
    have HE : Kp (dropE l s = 0) := ⟨by unfold dropE atN; rw [hf]; rfl⟩
    have hi0 : ¬ (i : Int) < 0 := by omega
    clear hat hx hxs hf hi hD
    go_wp2_with (go_at_call 29; refine HD.out.mono ?_; rintro e w2 ⟨⟨v, rfl⟩, lv', hd, hfr, hc⟩; have H2 := Kp.mk (And.intro hd (And.intro hfr hc)); clear hd hfr hc)
    go_ret
    exact ⟨by rw [HE.out]; rfl, lv', H2.out.1, .inr H2.out.2.1, H2.out.2.2⟩
  · have HE : Kp (dropE l s = 5 ∧ outN l s = l) := ⟨by unfold dropE atN; rw [hf]; rfl, outN_none hf⟩
    clear hat hf
    go_wp2
    go_ret
    exact ⟨by rw [HE.out.1]; rfl, lv, by rw [HE.out.2]; exact H.out, .inl rfl, Chg.refl _ _⟩
set_option maxHeartbeats 1000000 in
theorem dgone_any (w : World) (q : Nat) (lv : Value) (l : List En) (p : Int) (h : IsD w q lv l) (hk : GOk l) :
    Calls Tryd.prog 21 #[.pointer (some ⟨q, 0, none⟩), .int .i64 p] w (DPost w q lv (nameR l p) (outP l p)) := by
  have hn : l.length ≤ 1000000 := by have := hk.len; omega
  obtain ⟨A, c, hv, q0⟩ := h.sh
  have H := Kp.mk h
  have HK := Kp.mk hk
  have HV := Kp.mk hv
  have HF := Kp.mk (dwho_any w q lv l p h hn)
  clear h hk hv
  go_enter Tryd.func21, Tryd.ntmps21
  go_wp2_with fail
  refine HF.out.mono ?_
  rintro e w1 ⟨k, hat, rfl, rfl⟩
  rcases atF_find hat with ⟨i, x, rfl, hx, hxs, hf⟩ | ⟨rfl, hf⟩
  · have hi := (List.getElem?_eq_some_iff.1 hx).1
    have hD := dout_any _ q lv l i H.out hi hn
    rw [← out_at HK.out hx] at hD
    have HD := Kp.mk hD
    have HE : Kp (nameR l p = .tuple #[.string x.n, .bool true] ∧ outP l p = outN l x.n) := ⟨by unfold nameR atP; rw [hf]; rfl, by unfold outP atP; rw [hf]⟩
    have hi0 : ¬ (i : Int) < 0 := by omega
    have ho := H.out.own
    rw [HV.out] at ho
    obtain ⟨g, rfl⟩ : ∃ g, A = some ⟨g, 0, none⟩ := by
      obtain ⟨A2, c2, hv2, _, _, hs0, hs1⟩ := ho.shape
      have ea : A = A2 := by injection hv2
      cases hA : A2 with
      | none => have h1 := (hs0 hA).1; rw [h1] at hi; simp at hi
      | some x => obtain ⟨g, rfl⟩ := hs1 x hA; exact ⟨g, by rw [ea, hA]⟩
    obtain ⟨a0, a1⟩ := ho.en i x hx
    have k1 : (i : Int) < (l.length : Int) := by omega
    have k0 : (0 : Int) ≤ (i : Int) := by omega
    clear hat hx hxs hf hD ho
    go_wp2_with (go_at_call 29; refine HD.out.mono ?_; rintro e w2 ⟨⟨v, rfl⟩, lv', hd, hfr, hc⟩; have H2 := Kp.mk (And.intro hd (And.intro hfr hc)); clear hd hfr hc)
    go_ret2
    exact ⟨by rw [HE.out.1]; rfl, lv', by rw [HE.out.2]; exact H2.out.1, .inr H2.out.2.1, H2.out.2.2⟩
  · have HE : Kp (nameR l p = .tuple #[.string { data := #[] }, .bool false] ∧ outP l p = l) := ⟨by unfold nameR atP; rw [hf]; rfl, by unfold outP atP; rw [hf]⟩
    clear hat hf
    go_wp2
    go_ret2
    exact ⟨by rw [HE.out.1]; rfl, lv, by rw [HE.out.2]; exact H.out, .inl rfl, Chg.refl _ _⟩
set_option maxHeartbeats 1000000 in
theorem dfindn_any (w : World) (q : Nat) (lv : Value) (l : List En) (s : ByteArray) (h : IsD w q lv l) (hk : GOk l) :
    Calls Tryd.prog 22 #[.pointer (some ⟨q, 0, none⟩), .string s] w fun e w' => e = .returned (findR l s) ∧ w = w' := by
  have hn : l.length ≤ 1000000 := by have := hk.len; omega
  obtain ⟨A, c, hv, q0⟩ := h.sh
  have H := Kp.mk h
  have HV := Kp.mk hv
  have HF := Kp.mk (dfind_any w q lv l s h hn)
  clear h hk hv
  go_enter Tryd.func22, Tryd.ntmps22
  go_wp2_with fail
  refine HF.out.mono ?_
  rintro e w1 ⟨k, hat, rfl, rfl⟩
  rcases atF_find hat with ⟨i, x, rfl, hx, hxs, hf⟩ | ⟨rfl, hf⟩
  · have hi := (List.getElem?_eq_some_iff.1 hx).1
    have HE : Kp (findR l s = .tuple #[.int .i64 x.p, .bool true]) := ⟨by unfold findR atN; rw [hf]; rfl⟩
    have hi0 : ¬ (i : Int) < 0 := by omega
    have ho := H.out.own
    rw [HV.out] at ho
    obtain ⟨g, rfl⟩ : ∃ g, A = some ⟨g, 0, none⟩ := by
      obtain ⟨A2, c2, hv2, _, _, hs0, hs1⟩ := ho.shape
      have ea : A = A2 := by injection hv2
      cases hA : A2 with
      | none => have h1 := (hs0 hA).1; rw [h1] at hi; simp at hi
      | some x => obtain ⟨g, rfl⟩ := hs1 x hA; exact ⟨g, by rw [ea, hA]⟩
    obtain ⟨a0, a1⟩ := ho.en i x hx
    have k1 : (i : Int) < (l.length : Int) := by omega
    have k0 : (0 : Int) ≤ (i : Int) := by omega
    clear hat hx hxs hf ho
    go_wp2
    go_ret2
    exact ⟨by rw [HE.out]; rfl, rfl⟩
  · have HE : Kp (findR l s = .tuple #[.int .i64 0, .bool false]) := ⟨by unfold findR atN; rw [hf]; rfl⟩
    clear hat hf
    go_wp2
    go_ret2
    exact ⟨by rw [HE.out]; rfl, rfl⟩
set_option maxHeartbeats 1000000 in
theorem dname_any (w : World) (q : Nat) (lv : Value) (l : List En) (p : Int) (h : IsD w q lv l) (hk : GOk l) :
    Calls Tryd.prog 23 #[.pointer (some ⟨q, 0, none⟩), .int .i64 p] w fun e w' => e = .returned (nameR l p) ∧ w = w' := by
  have hn : l.length ≤ 1000000 := by have := hk.len; omega
  obtain ⟨A, c, hv, q0⟩ := h.sh
  have H := Kp.mk h
  have HV := Kp.mk hv
  have HF := Kp.mk (dwho_any w q lv l p h hn)
  clear h hk hv
  go_enter Tryd.func23, Tryd.ntmps23
  go_wp2_with fail
  refine HF.out.mono ?_
  rintro e w1 ⟨k, hat, rfl, rfl⟩
  rcases atF_find hat with ⟨i, x, rfl, hx, hxs, hf⟩ | ⟨rfl, hf⟩
  · have hi := (List.getElem?_eq_some_iff.1 hx).1
    have HE : Kp (nameR l p = .tuple #[.string x.n, .bool true]) := ⟨by unfold nameR atP; rw [hf]; rfl⟩
    have hi0 : ¬ (i : Int) < 0 := by omega
    have ho := H.out.own
    rw [HV.out] at ho
    obtain ⟨g, rfl⟩ : ∃ g, A = some ⟨g, 0, none⟩ := by
      obtain ⟨A2, c2, hv2, _, _, hs0, hs1⟩ := ho.shape
      have ea : A = A2 := by injection hv2
      cases hA : A2 with
      | none => have h1 := (hs0 hA).1; rw [h1] at hi; simp at hi
      | some x => obtain ⟨g, rfl⟩ := hs1 x hA; exact ⟨g, by rw [ea, hA]⟩
    obtain ⟨a0, a1⟩ := ho.en i x hx
    have k1 : (i : Int) < (l.length : Int) := by omega
    have k0 : (0 : Int) ≤ (i : Int) := by omega
    clear hat hx hxs hf ho
    go_wp2
    go_ret2
    exact ⟨by rw [HE.out]; rfl, rfl⟩
  · have HE : Kp (nameR l p = .tuple #[.string { data := #[] }, .bool false]) := ⟨by unfold nameR atP; rw [hf]; rfl⟩
    clear hat hf
    go_wp2
    go_ret2
    exact ⟨by rw [HE.out]; rfl, rfl⟩
end Go.Proofs.YtmkfpaohlmejkaaDoor
