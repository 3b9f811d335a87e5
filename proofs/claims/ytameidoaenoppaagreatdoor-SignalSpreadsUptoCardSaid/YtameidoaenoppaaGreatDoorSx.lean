/- Spread of package signal walked, where nothing is wrong; bounds stand in the statement. -/
import Derived.Test.YtameidoaenoppaaGreatDoorSj
import Derived.Test.YtameidoaenoppaaGreatDoorLOs
import Derived.Laws.EntriesVeiled
import Derived.RegionIn
import Derived.OwnWalk
namespace Go.Proofs.YtameidoaenoppaaGreatDoor
open Go.RowKit Go.Shelf
attribute [local go_sem] Oper.semAt_some

def SprPost (w : World) (p bm lm rm : Nat) (live traps : List Int) (ds : List Dth) (ns : List NB) (last : Int) (e : Ending) (w' : World) : Prop :=
  ∃ dv sv vs us, e = .returned (.tuple #[dv, sv, .int .i64 0]) ∧ OwnT w w' 48 dv vs (sprd live traps ds ns).1.ds ∧ OwnT w w' 51 sv us (sprd live traps ds ns).1.ts ∧ Ap (vs ++ us) ∧
    IsG w' p bm lm rm (sprd live traps ds ns).2 last ∧ Chg (FG p bm lm rm) w w'
theorem TTv : SlT Tryz.prog 33 51 eDv 32 := SlT.mk' (k := 2) (z := .agg #[.int .i64 0, .slice none 0 0]) Tryz.underlying33 (by kernel_rfl) rfl rfl
/-- A map of what stands in a list's first places. -/
def InM (w : World) (b : Nat) (l : List Int) : Prop := ∃ es, IsMapV K2 w b es ∧ es.length ≤ l.length ∧ ∀ q, look es q = if q ∈ l then some (.bool true) else none
theorem okPid {p : Int} (h : IsPid p) : K2.ok p := ok2 p (by have := h.1; omega) (by have := h.2; omega)
theorem badP_pid {l : List Int} (h : badP l = false) {k : Nat} {x : Int} (hx : l[k]? = some x) : IsPid x := by
  unfold badP at h
  rw [List.any_eq_false] at h
  have := h x (List.mem_of_getElem? hx)
  simpa using this
theorem InM.put {w : World} {b : Nat} {l : List Int} (h : InM w b l) (hn : l.length ≤ 18000000000000) (x : Int) (hx : K2.ok x) :
    ∃ w', (Instr.mapUpdate 61 (.map (some b)) (.int .i64 x) (.bool true)).run Tryz.prog w = .ok () w' ∧ InM w' b (l ++ [x]) ∧ Chg (fun g => g = b) w w' := by
  obtain ⟨es, h1, h2, h3⟩ := h
  obtain ⟨w', hr, k1, k2⟩ := h1.put Tryz.underlying61 (by unfold maxLen; omega) x (.bool true) hx
  refine ⟨w', hr, ⟨_, k1, ?_, fun q => ?_⟩, k2⟩
  · have := cut_len h1.apart x
    unfold putE
    rw [List.length_append, List.length_append, List.length_singleton, List.length_singleton]
    omega
  · by_cases hq : q = x
    · subst hq; rw [look_put_same, if_pos (by simp)]
    · rw [look_put_other hq, h3]
      simp [hq]
theorem DiesPost.box {w w' : World} {am bD : Nat} {ea : List (Int × Value)} {dv : Value} {vs : List Dv} {q : Int} {r : List Ce} {e : Ending} (hp : DiesPost w am bD ea dv vs q r e w') (hm : IsMapV K2 w am ea) (hD : Boxed w bD 24 dv) (ho : Own w 48 eDv dv vs)
    {b : Nat} {T : TypeId} {v : Value} (hb : Boxed w b T v) (t1 : T ≠ 24) (t2 : T ≠ 48) : Boxed w' b T v := by
  obtain ⟨_, _, _, _, _, _, _, _, _, _, h7⟩ := hp
  refine h7.at hb (fun hF => ?_)
  rcases hF with rfl | rfl | hF
  · exact map_ne hm hb rfl
  · unfold Boxed at hb hD
    rw [hD] at hb; cases hb; exact t1 rfl
  · exact ho.ne hb (fun e => t2 e.symm) hF
theorem lift_bg (L : List Bd) (h : ∀ x ∈ L, Good x) : ∃ l : List Bg, l.map (·.1) = L := by
  induction L with
  | nil => exact ⟨[], rfl⟩
  | cons x L ih =>
    obtain ⟨l, hl⟩ := ih (fun y hy => h y (List.mem_cons_of_mem _ hy))
    exact ⟨⟨x, h x (List.mem_cons_self ..)⟩ :: l, by rw [List.map_cons, hl]⟩
theorem OwnT.kp {w0 w w' : World} {T : TypeId} {v : Value} {vs : List Dv} {ds : List Dth} (h : OwnT w0 w T v vs ds) (hk : KpI NoF w w') : OwnT w0 w' T v vs ds :=
  ⟨hk.own h.own (fun _ _ h => h), h.len, fun i x d hx hd => ⟨(h.tx i x d hx hd).1, (h.tx i x d hx hd).2.1, hk.own (h.tx i x d hx hd).2.2 (fun _ _ h => h)⟩, h.fr, h.frs⟩
theorem keepsFrom_below {B : Nat} {W W' : World} (h : Below W.heap.size W W') : KeepsFrom B W W' := ⟨h.size, fun k _ _ hk _ => (h.block k (lt_of_block hk)).trans hk⟩
set_option maxRecDepth 100000 in
set_option maxHeartbeats 16000000 in
theorem spread_any (w : World) (p bm lm rm : Nat) (ns : List NB) (last : Int) (A B D : Option Addr) (c1 c2 c3 : Nat) (live traps : List Int) (vs0 : List Dv) (ds : List Dth) (hg : IsG w p bm lm rm ns last) (hla : last ≤ 1000000000000000000)
    (ha : Src w eI64 A c1 live) (hb : Src w eI64 B c2 traps) (hd : Src w eDv D c3 vs0) (hr : RdD w vs0 ds) (hT : ∀ w', Chg (FG p bm lm rm) w w' → Tabs w')
    (hn1 : live.length ≤ 18000000000000) (hn2 : traps.length ≤ 18000000000000) (hn3 : vs0.length ≤ 9000000000000) (hcc : vs0.length ≤ c3) (hn4 : ∀ d ∈ ds, d.r.length ≤ 9000000000000) (hw : wrongE live traps ds = 0) :
    Calls Tryz.prog 7 #[.pointer (some ⟨p, 0, none⟩), .slice A live.length c1, .slice B traps.length c2, .slice D vs0.length c3] w (SprPost w p bm lm rm live traps ds ns last) := by
  have HW := Kp.mk (wrong_any w A B D c1 c2 c3 live traps vs0 ds ha hb hd hr (hT w (Chg.refl _ w)) (by omega) (by omega) (by omega) hcc hn4)
  rw [hw] at HW
  have HOK := Kp.mk (wrongE_ok hw)
  have HG := Kp.mk hg
  have HA := Kp.mk ha
  have HB := Kp.mk hb
  have HD := Kp.mk hd
  have HR := Kp.mk hr
  have HT := Kp.mk hT
  obtain ⟨n1, h1⟩ : ∃ n1, n1 = live.length := ⟨_, rfl⟩
  obtain ⟨n2, h2⟩ : ∃ n2, n2 = traps.length := ⟨_, rfl⟩
  obtain ⟨n3, h3⟩ : ∃ n3, n3 = vs0.length := ⟨_, rfl⟩
  have N1 := Kp.mk h1
  have N2 := Kp.mk h2
  have N3 := Kp.mk h3
  rw [← h1, ← h2, ← h3] at HW ⊢
  rw [← h1] at hn1
  rw [← h2] at hn2
  rw [← h3] at hn3
  clear hg ha hb hd hr hT hw hcc hn4 h1 h2 h3
  have f1 : Fence.wide.fn 23 := trivial
  have f2 : Fence.wide.fn 24 := trivial
  have f3 : Fence.wide.fn 26 := trivial
  have f4 : Fence.wide.fn 27 := trivial
  have f5 : Fence.wide.fn 61 := trivial
  have f6 : Fence.wide.fn 28 := trivial
  have f7 : Fence.wide.fn 29 := trivial
  have f8 : Fence.wide.fn 30 := trivial
  have hmm := @run_makeMap Tryz.prog
  refine (callsIn_wide (n := 10)).1 ?_
  refine callsIn_of_wp_marks Tryz.func7 rfl trivial ?_ rfl
  simp only [Tryz.ntmps7, List.size_toArray, List.length_cons, List.length_nil, Nat.reduceAdd, Nat.reduceSub, Array.replicate_succ, Array.replicate_zero, List.push_toArray, List.append_toArray, List.nil_append, List.cons_append]
  gi_wp2_with (gi_at_call 23; refine (callsIn_wide.2 HW.out).mono ?_; rintro e w1 ⟨rfl, b1⟩; have B1 := Kp.mk b1; clear b1)
  obtain ⟨W0, hW0⟩ : ∃ W0, W0 = (((w1.alloc (.map #[] 0)).alloc (.map #[] 0)).alloc (.cells #[.map (some w1.heap.size)] 61)).alloc (.cells #[.map (some (w1.heap.size + 1))] 61) := ⟨_, rfl⟩
  rw [← hW0]
  have Z1 : Kp (Below w.heap.size w W0) := ⟨by
    have := B1.out.size
    rw [hW0]; exact (((B1.out.alloc this _).alloc (by simp; omega) _).alloc (by simp; omega) _).alloc (by simp; omega) _⟩
  have Z2 : Kp (Boxed W0 (w1.heap.size + 1 + 1) 61 (.map (some w1.heap.size))) := ⟨by
    have := Boxed.new ((w1.alloc (.map #[] 0)).alloc (.map #[] 0)) 61 (.map (some w1.heap.size))
    rw [World.size_alloc, World.size_alloc] at this
    rw [hW0]; exact Boxed.alloc this _⟩
  have Z3 : Kp (Boxed W0 (w1.heap.size + 1 + 1 + 1) 61 (.map (some (w1.heap.size + 1)))) := ⟨by
    have := Boxed.new (((w1.alloc (.map #[] 0)).alloc (.map #[] 0)).alloc (.cells #[.map (some w1.heap.size)] 61)) 61 (.map (some (w1.heap.size + 1)))
    rw [World.size_alloc, World.size_alloc, World.size_alloc] at this
    rw [hW0]; exact this⟩
  have Z4 : Kp (InM W0 w1.heap.size []) := ⟨⟨[], by rw [hW0]; exact (((isMap_made K2 w1).al _).al _).al _, Nat.le_refl _, fun q => by simp [look]⟩⟩
  have Z5 : Kp (InM W0 (w1.heap.size + 1) []) := ⟨⟨[], by
    have := isMap_made K2 (w1.alloc (.map #[] 0))
    rw [World.size_alloc] at this
    rw [hW0]; exact (this.al _).al _, Nat.le_refl _, fun q => by simp [look]⟩⟩
  have Z6 := B1.out.size
  clear hW0 B1
  obtain ⟨bT, hbT⟩ : ∃ bT, bT = w1.heap.size + 1 + 1 + 1 := ⟨_, rfl⟩
  obtain ⟨bA, hbA⟩ : ∃ bA, bA = w1.heap.size + 1 + 1 := ⟨_, rfl⟩
  obtain ⟨tm, htm⟩ : ∃ tm, tm = w1.heap.size + 1 := ⟨_, rfl⟩
  obtain ⟨am, ham⟩ : ∃ am, am = w1.heap.size := ⟨_, rfl⟩
  have NEW : Kp (w.heap.size ≤ am ∧ w.heap.size ≤ tm ∧ w.heap.size ≤ bA ∧ w.heap.size ≤ bT) := ⟨by omega⟩
  have NE : Kp (am ≠ tm) := ⟨by omega⟩
  rw [← hbT] at Z3 ⊢
  rw [← hbA] at Z2 ⊢
  rw [← htm] at Z3 Z5 ⊢
  rw [← ham] at Z2 Z4 ⊢
  clear hbT hbA htm ham Z6
  gi_loopw [15, 43] (fun _ i wr => ∃ k : Nat, k ≤ n1 ∧ i = .int .i64 k ∧ Kp (Below w.heap.size w wr) ∧ Kp (Boxed wr bA 61 (.map (some am))) ∧ Kp (Boxed wr bT 61 (.map (some tm))) ∧ Kp (InM wr am (live.take k)) ∧ Kp (InM wr tm [])) (fun _ i _ => n1 - (intOf i).toNat)
  case atStart => exact ⟨0, Nat.zero_le _, rfl, Z1, Z2, Z3, Z4, Z5⟩
  case round =>
    clear Z1 Z2 Z3 Z4 Z5
    obtain ⟨k, hk, rfl, Y1, Y2, Y3, Y4, Y5⟩ := hrel
    by_cases hlt : k < n1
    · obtain ⟨x, hx⟩ : ∃ x, live[k]? = some x := ⟨_, List.getElem?_eq_getElem (by have := N1.out; omega)⟩
      obtain ⟨ad, rfl⟩ : ∃ ad, A = some ad := by
        cases A with
        | none => have h9 := (HA.out.none rfl).1; rw [h9] at hx; simp at hx
        | some ad => exact ⟨ad, rfl⟩
      obtain ⟨g, o, rfl⟩ := HA.out.addr (by have := N1.out; omega)
      have a0 := (HA.out.below Y1.out).i64 k x hx
      have a1 := Y2.out.cell
      obtain ⟨w2, hr2, m2, cc2⟩ := Y4.out.put (by rw [List.length_take]; omega) x (okPid (badP_pid HOK.out.1 hx))
      have e1 : live.take k ++ [x] = live.take (k + 1) := by rw [List.take_add_one, hx]; rfl
      rw [e1] at m2
      have X1 : Kp (Below w.heap.size w w2) := ⟨chg_below Y1.out cc2 (fun g hg => by have := NEW.out; omega) Y1.out.size⟩
      have mne {b : Nat} {v : Value} (hb : Boxed wr b 61 v) : ¬ (b = am) := fun e => by obtain ⟨es, h1, _⟩ := Y4.out; exact map_ne h1 hb e
      have X2 : Kp (Boxed w2 bA 61 (.map (some am))) := ⟨cc2.at Y2.out (mne Y2.out)⟩
      have X3 : Kp (Boxed w2 bT 61 (.map (some tm))) := ⟨cc2.at Y3.out (mne Y3.out)⟩
      have X4 := Kp.mk m2
      have X5 : Kp (InM w2 tm []) := ⟨by obtain ⟨es, h1, h2⟩ := Y5.out; exact ⟨es, h1.frame cc2 (fun e => NE.out e.symm), h2⟩⟩
      have k0 : (0 : Int) ≤ (k : Int) := by omega
      have k1 : (k : Int) < (n1 : Int) := by omega
      clear hx m2 cc2 e1 mne
      gi_wp2
      go_roundw
      case rel => exact ⟨k + 1, by omega, by go_num, X1, X2, X3, X4, X5⟩
      case measure => simp [intOf]; omega
    · have hk2 : k = n1 := by omega
      subst hk2
      have L1 : Kp (InM wr am live) := ⟨by have := Y4.out; rwa [N1.out, List.take_length] at this⟩
      have U1 := Y1
      have U2 := Y2
      have U3 := Y3
      have U5 := Y5
      clear Y1 Y2 Y3 Y4 Y5
      obtain ⟨wa, rfl⟩ : ∃ wa : World, wa = wr := ⟨_, rfl⟩
      gi_wp2
      gi_loopw [17, 52] (fun _ i wr => ∃ k : Nat, k ≤ n2 ∧ i = .int .i64 k ∧ Kp (Below w.heap.size w wr) ∧ Kp (Boxed wr bA 61 (.map (some am))) ∧ Kp (Boxed wr bT 61 (.map (some tm))) ∧ Kp (InM wr am live) ∧ Kp (InM wr tm (traps.take k))) (fun _ i _ => n2 - (intOf i).toNat)
      case atStart => exact ⟨0, Nat.zero_le _, rfl, U1, U2, U3, L1, U5⟩
      case round =>
        clear U1 U2 U3 U5 L1
        obtain ⟨k, hk, rfl, Y1, Y2, Y3, Y4, Y5⟩ := hrel
        by_cases hlt : k < n2
        · obtain ⟨x, hx⟩ : ∃ x, traps[k]? = some x := ⟨_, List.getElem?_eq_getElem (by have := N2.out; omega)⟩
          obtain ⟨ad, rfl⟩ : ∃ ad, B = some ad := by
            cases B with
            | none => have h9 := (HB.out.none rfl).1; rw [h9] at hx; simp at hx
            | some ad => exact ⟨ad, rfl⟩
          obtain ⟨g, o, rfl⟩ := HB.out.addr (by have := N2.out; omega)
          have a0 := (HB.out.below Y1.out).i64 k x hx
          have a1 := Y3.out.cell
          obtain ⟨w2, hr2, m2, cc2⟩ := Y5.out.put (by rw [List.length_take]; omega) x (okPid (badP_pid HOK.out.2.1 hx))
          have e1 : traps.take k ++ [x] = traps.take (k + 1) := by rw [List.take_add_one, hx]; rfl
          rw [e1] at m2
          have X1 : Kp (Below w.heap.size w w2) := ⟨chg_below Y1.out cc2 (fun g hg => by have := NEW.out; omega) Y1.out.size⟩
          have mne {b : Nat} {v : Value} (hb : Boxed wr b 61 v) : ¬ (b = tm) := fun e => by obtain ⟨es, h1, _⟩ := Y5.out; exact map_ne h1 hb e
          have X2 : Kp (Boxed w2 bA 61 (.map (some am))) := ⟨cc2.at Y2.out (mne Y2.out)⟩
          have X3 : Kp (Boxed w2 bT 61 (.map (some tm))) := ⟨cc2.at Y3.out (mne Y3.out)⟩
          have X5 := Kp.mk m2
          have X4 : Kp (InM w2 am live) := ⟨by obtain ⟨es, h1, h2⟩ := Y4.out; exact ⟨es, h1.frame cc2 NE.out, h2⟩⟩
          have k0 : (0 : Int) ≤ (k : Int) := by omega
          have k1 : (k : Int) < (n2 : Int) := by omega
          clear hx m2 cc2 e1 mne
          gi_wp2
          go_roundw
          case rel => exact ⟨k + 1, by omega, by go_num, X1, X2, X3, X4, X5⟩
          case measure => simp [intOf]; omega
        · have hk2 : k = n2 := by omega
          subst hk2
          have L2 : Kp (InM wr tm traps) := ⟨by have := Y5.out; rwa [N2.out, List.take_length] at this⟩
          have L1 := Y4
          have U1 := Y1
          have U2 := Y2
          have U3 := Y3
          clear Y1 Y2 Y3 Y4 Y5
          obtain ⟨wb, rfl⟩ : ∃ wb : World, wb = wr := ⟨_, rfl⟩
          gi_wp2
          obtain ⟨ea, ma, _, la⟩ := L1.out
          obtain ⟨et, mt, _, lt⟩ := L2.out
          obtain ⟨W3, hW3⟩ : ∃ W3, W3 = ((wb.alloc (.cells #[.slice none 0 0] 24)).alloc (.cells #[.slice none 0 0] 33)).alloc (.cells #[.func (.func 24) #[] #[.pointer (some ⟨bA, 0, none⟩), .pointer (some ⟨wb.heap.size, 0, none⟩)]] 64) := ⟨_, rfl⟩
          rw [← hW3]
          have V1 : Below wb.heap.size wb W3 := by rw [hW3]; exact (((Below.refl _ wb).alloc (Nat.le_refl _) _).alloc (by simp) _).alloc (by simp; omega) _
          have V2 : Boxed W3 wb.heap.size 24 (.slice none 0 0) := by rw [hW3]; exact Boxed.alloc (Boxed.alloc (Boxed.new _ _ _) _) _
          have V3 : Boxed W3 (wb.heap.size + 1) 33 (.slice none 0 0) := by
            have := Boxed.new (wb.alloc (.cells #[.slice none 0 0] 24)) 33 (.slice none 0 0)
            rw [World.size_alloc] at this
            rw [hW3]; exact Boxed.alloc this _
          have V4 : Kp (Boxed W3 (wb.heap.size + 1 + 1) 64 (.func (.func 24) #[] #[.pointer (some ⟨bA, 0, none⟩), .pointer (some ⟨wb.heap.size, 0, none⟩)])) := ⟨by
            have := Boxed.new ((wb.alloc (.cells #[.slice none 0 0] 24)).alloc (.cells #[.slice none 0 0] 33)) 64 (.func (.func 24) #[] #[.pointer (some ⟨bA, 0, none⟩), .pointer (some ⟨wb.heap.size, 0, none⟩)])
            rw [World.size_alloc, World.size_alloc] at this
            rw [hW3]; exact this⟩
          have G1 : Kp (Below w.heap.size w W3) := ⟨bstep U1.out U1.out.size V1⟩
          have kb {b : Nat} {v : Value} (hb : Boxed wb b 61 v) : Boxed W3 b 61 v := (Chg.of_below V1 NoF).at hb (fun h => h)
          have S0 : Kp (SI w W3 p bm lm rm am tm bA bT wb.heap.size (wb.heap.size + 1) live traps ⟨[], []⟩ ns last (.slice none 0 0) (.slice none 0 0) [] [] ea et) := ⟨⟨HG.out.below G1.out, kb U2.out, kb U3.out, V2, V3, ma.below V1, mt.below V1, fun q => by rw [la]; simp [aliveB, pids], lt,
            ⟨Own.nil _ _ _, rfl, fun i x d h => (by simp at h), Fresh.nil _ _ _, fun x h => (by cases h)⟩, ⟨Own.nil _ _ _, rfl, fun i x d h => (by simp at h), Fresh.nil _ _ _, fun x h => (by cases h)⟩, List.Pairwise.nil, by have := NEW.out; have := U1.out.size; omega, HG.out.g.lt, NE.out, Chg.of_below G1.out _⟩⟩
          have GB : Kp (w.heap.size ≤ wb.heap.size) := ⟨U1.out.size⟩
          clear hW3 V1 V2 V3 kb ma la mt lt L1 L2 U1 U2 U3
          obtain ⟨bF, hbF⟩ : ∃ bF, bF = wb.heap.size + 1 + 1 := ⟨_, rfl⟩
          obtain ⟨bS, hbS⟩ : ∃ bS, bS = wb.heap.size + 1 := ⟨_, rfl⟩
          obtain ⟨bD, hbD⟩ : ∃ bD, bD = wb.heap.size := ⟨_, rfl⟩
          rw [← hbF] at V4 ⊢
          rw [← hbS] at S0 ⊢
          rw [← hbD] at S0 V4 ⊢
          have GF : Kp (w.heap.size ≤ bF) := ⟨by have := GB.out; omega⟩
          clear hbF hbS hbD GB
          gi_loopw [22, 62] (fun _ i wr => ∃ k : Nat, k ≤ n3 ∧ i = .int .i64 k ∧ Kp (Below w.heap.size w wr) ∧ Kp (∃ dv vs ea, SI w wr p bm lm rm am tm bA bT bD bS live traps ⟨ds.take k, []⟩ ns last dv (.slice none 0 0) vs [] ea et) ∧ Kp (Boxed wr bF 64 (.func (.func 24) #[] #[.pointer (some ⟨bA, 0, none⟩), .pointer (some ⟨bD, 0, none⟩)]))) (fun _ i _ => n3 - (intOf i).toNat)
          case atStart => exact ⟨0, Nat.zero_le _, rfl, G1, ⟨_, _, _, S0.out⟩, V4⟩
          case round =>
            clear S0 V4 G1
            obtain ⟨k, hk, rfl, Y1, Y2, Y3⟩ := hrel
            by_cases hlt : k < n3
            · obtain ⟨x, hx⟩ : ∃ x, vs0[k]? = some x := ⟨_, List.getElem?_eq_getElem (by have := N3.out; omega)⟩
              obtain ⟨d, hdk⟩ : ∃ d, ds[k]? = some d := ⟨_, List.getElem?_eq_getElem (by have := N3.out; have := HR.out.len; omega)⟩
              obtain ⟨hpd, hnd, hsd⟩ := HR.out.at_ k x d hx hdk
              obtain ⟨xp, xA, xn, xc⟩ := x
              obtain ⟨dp, dr⟩ := d
              simp only at hpd hnd hsd
              subst hpd hnd
              obtain ⟨ad, rfl⟩ : ∃ ad, D = some ad := by
                cases D with
                | none => have h9 := (HD.out.none rfl).1; rw [h9] at hx; simp at hx
                | some ad => exact ⟨ad, rfl⟩
              obtain ⟨g, o, rfl⟩ := HD.out.addr (by have := N3.out; omega)
              obtain ⟨a0, a1⟩ := (HD.out.below Y1.out).dv k _ hx
              simp only at a0 a1
              obtain ⟨dv, vs, ea1, hS⟩ := Y2.out
              have hbx : Below wr.heap.size wr (wr.alloc (.cells #[.int .i64 xp, .slice xA dr.length xc] 48)) := (Below.refl _ _).alloc (Nat.le_refl _) _
              have hS1 := hS.below hbx
              have Y31 : Boxed (wr.alloc (.cells #[.int .i64 xp, .slice xA dr.length xc] 48)) bF 64 _ := Boxed.alloc Y3.out _
              have hin := HOK.out.2.2.2.2.2 _ (List.mem_of_getElem? hdk)
              have hrl := rightE_len (HOK.out.2.2.2.1 _ (List.mem_of_getElem? hdk))
              have hvl : vs.length ≤ 2000000000000 := by
                have h1 := hS1.d.len
                have h2 := nodup_pids (l := pids ds) 1099511627776 HOK.out.2.2.2.2.1 (fun y hy => by
                  obtain ⟨i, hi⟩ := List.mem_iff_getElem?.1 hy
                  exact badP_pid HOK.out.2.2.1 hi)
                unfold pids at h2
                rw [List.length_map] at h2
                simp only [List.length_take] at h1
                omega
              have HDI := Kp.mk (dies_any _ bA am bD ea1 dv vs xp xA xc dr hS1.xA hS1.mA hS1.xD hS1.d.own (okPid (by
                obtain ⟨i, hi⟩ := List.mem_iff_getElem?.1 hin
                exact badP_pid HOK.out.1 hi)) (hsd.below (bstep Y1.out Y1.out.size hbx)) hrl.1 hrl.2 hvl)
              have HS1 := Kp.mk hS1
              have H31 := Kp.mk Y31
              have HB1 := Kp.mk (bstep Y1.out Y1.out.size hbx)
              have HDK := Kp.mk hdk
              have c31 := Y3.out.cell
              have c32 := Y31.cell
              have k0 : (0 : Int) ≤ (k : Int) := by omega
              have k1 : (k : Int) < (n3 : Int) := by omega
              clear hS hS1 hbx Y31 hin hrl hvl hx hdk hsd
              gi_wp2_with (gi_at_call 24; refine (callsIn_wide.2 HDI.out).mono ?_; rintro e w3 hp; obtain ⟨v, rfl⟩ := hp.1; have HP := Kp.mk hp; clear hp)
              go_roundw
              case rel =>
                refine ⟨k + 1, by omega, by go_num, ⟨?_⟩, ⟨?_⟩, ⟨HP.out.box HS1.out.mA HS1.out.xD HS1.out.d.own H31.out (by decide) (by decide)⟩⟩
                · obtain ⟨_, _, _, _, _, _, _, _, _, _, h7⟩ := HP.out
                  exact chg_below HB1.out h7 (fun g hg => by
                    rcases hg with rfl | rfl | hg
                    · exact HS1.out.new.1
                    · exact HS1.out.new.2.2.2.2.1
                    · exact HS1.out.d.fr g hg) HB1.out.size
                · obtain ⟨dv', x', h, _⟩ := HS1.out.die HP.out
                  rw [List.take_add_one, HDK.out]
                  exact ⟨_, _, _, h⟩
              case measure => simp [intOf]; omega
            · have hk3 : k = n3 := by omega
              subst hk3
              have S1 : Kp (∃ dv vs ea, SI w wr p bm lm rm am tm bA bT bD bS live traps ⟨ds, []⟩ ns last dv (.slice none 0 0) vs [] ea et) := ⟨by
                obtain ⟨dv, vs, ea, h⟩ := Y2.out
                rw [List.take_of_length_le (by have := N3.out; have := HR.out.len; omega)] at h
                exact ⟨_, _, _, h⟩⟩
              have S2 := Y3
              clear Y1 Y2 Y3
              obtain ⟨wc, rfl⟩ : ∃ wc : World, wc = wr := ⟨_, rfl⟩
              gi_wp2
              obtain ⟨st, hst⟩ : ∃ st : St, st = (⟨ds, []⟩, ns) := ⟨_, rfl⟩
              have ST := Kp.mk hst
              have OR : Kp (∀ i, OkR live (ds.length + ns.length) (rnds live traps i st) last) := ⟨fun i => by
                rw [hst]
                exact OkR.rnds ⟨⟨HOK.out.2.2.2.2.1, HOK.out.2.2.2.2.2, HOK.out.2.2.2.1⟩, HG.out.ok, by simp⟩ i⟩
              have S3 : Kp (∃ dv sv vs us ea, SI w wc p bm lm rm am tm bA bT bD bS live traps (rnds live traps 0 st).1 (rnds live traps 0 st).2 last dv sv vs us ea et) := ⟨by
                obtain ⟨dv, vs, ea, h⟩ := S1.out
                exact ⟨_, _, _, _, _, by rw [hst]; exact h⟩⟩
              clear S1 hst
              refine wpIn_loop (fun a' w' => ∃ (i : Nat) (dl : List Deferred), i ≤ (rnds live traps i st).1.ds.length ∧ Kp (∃ dv sv vs us ea, SI w w' p bm lm rm am tm bA bT bD bS live traps (rnds live traps i st).1 (rnds live traps i st).2 last dv sv vs us ea et) ∧ Kp (Boxed w' bF 64 (.func (.func 24) #[] #[.pointer (some ⟨bA, 0, none⟩), .pointer (some ⟨bD, 0, none⟩)])) ∧ Kp (Marks w' w.heap.size dl) ∧
                a' = { tmps := #[.pointer (some ⟨p, 0, none⟩), a'.tmps.getD 1 undef, a'.tmps.getD 2 undef, a'.tmps.getD 3 undef, a'.tmps.getD 4 undef, a'.tmps.getD 5 undef, a'.tmps.getD 6 undef, a'.tmps.getD 7 undef, a'.tmps.getD 8 undef, a'.tmps.getD 9 undef, a'.tmps.getD 10 undef, a'.tmps.getD 11 undef, .pointer (some ⟨bA, 0, none⟩), .pointer (some ⟨bT, 0, none⟩), a'.tmps.getD 14 undef, a'.tmps.getD 15 undef, a'.tmps.getD 16 undef, a'.tmps.getD 17 undef, .pointer (some ⟨bD, 0, none⟩), .pointer (some ⟨bS, 0, none⟩), .pointer (some ⟨bF, 0, none⟩), a'.tmps.getD 21 undef, a'.tmps.getD 22 undef, .int .i64 (i : Int), a'.tmps.getD 24 undef, a'.tmps.getD 25 undef, a'.tmps.getD 26 undef, a'.tmps.getD 27 undef, a'.tmps.getD 28 undef, a'.tmps.getD 29 undef, a'.tmps.getD 30 undef, a'.tmps.getD 31 undef, a'.tmps.getD 32 undef, a'.tmps.getD 33 undef, a'.tmps.getD 34 undef, a'.tmps.getD 35 undef, a'.tmps.getD 36 undef, a'.tmps.getD 37 undef, a'.tmps.getD 38 undef, a'.tmps.getD 39 undef, a'.tmps.getD 40 undef, a'.tmps.getD 41 undef, a'.tmps.getD 42 undef, a'.tmps.getD 43 undef, a'.tmps.getD 44 undef, a'.tmps.getD 45 undef, a'.tmps.getD 46 undef, a'.tmps.getD 47 undef, a'.tmps.getD 48 undef, a'.tmps.getD 49 undef, a'.tmps.getD 50 undef, a'.tmps.getD 51 undef, a'.tmps.getD 52 undef, a'.tmps.getD 53 undef, a'.tmps.getD 54 undef, a'.tmps.getD 55 undef, a'.tmps.getD 56 undef, a'.tmps.getD 57 undef, a'.tmps.getD 58 undef, a'.tmps.getD 59 undef, a'.tmps.getD 60 undef, a'.tmps.getD 61 undef, a'.tmps.getD 62 undef, a'.tmps.getD 63 undef, a'.tmps.getD 64 undef, a'.tmps.getD 65 undef, a'.tmps.getD 66 undef, a'.tmps.getD 67 undef, a'.tmps.getD 68 undef, a'.tmps.getD 69 undef, a'.tmps.getD 70 undef, a'.tmps.getD 71 undef, a'.tmps.getD 72 undef, a'.tmps.getD 73 undef, a'.tmps.getD 74 undef, a'.tmps.getD 75 undef, a'.tmps.getD 76 undef, a'.tmps.getD 77 undef, a'.tmps.getD 78 undef, a'.tmps.getD 79 undef, a'.tmps.getD 80 undef, a'.tmps.getD 81 undef, a'.tmps.getD 82 undef, a'.tmps.getD 83 undef, a'.tmps.getD 84 undef, a'.tmps.getD 85 undef, a'.tmps.getD 86 undef, a'.tmps.getD 87 undef, a'.tmps.getD 88 undef, a'.tmps.getD 89 undef, a'.tmps.getD 90 undef, a'.tmps.getD 91 undef, a'.tmps.getD 92 undef, a'.tmps.getD 93 undef, a'.tmps.getD 94 undef, a'.tmps.getD 95 undef, a'.tmps.getD 96 undef, a'.tmps.getD 97 undef, a'.tmps.getD 98 undef, a'.tmps.getD 99 undef, a'.tmps.getD 100 undef, a'.tmps.getD 101 undef, a'.tmps.getD 102 undef, a'.tmps.getD 103 undef, a'.tmps.getD 104 undef, a'.tmps.getD 105 undef, a'.tmps.getD 106 undef, a'.tmps.getD 107 undef, a'.tmps.getD 108 undef, a'.tmps.getD 109 undef, a'.tmps.getD 110 undef, a'.tmps.getD 111 undef, a'.tmps.getD 112 undef, a'.tmps.getD 113 undef, a'.tmps.getD 114 undef, a'.tmps.getD 115 undef, a'.tmps.getD 116 undef, a'.tmps.getD 117 undef, a'.tmps.getD 118 undef, a'.tmps.getD 119 undef, a'.tmps.getD 120 undef, a'.tmps.getD 121 undef, a'.tmps.getD 122 undef, a'.tmps.getD 123 undef, a'.tmps.getD 124 undef, a'.tmps.getD 125 undef, a'.tmps.getD 126 undef, a'.tmps.getD 127 undef, a'.tmps.getD 128 undef, a'.tmps.getD 129 undef, a'.tmps.getD 130 undef, a'.tmps.getD 131 undef, a'.tmps.getD 132 undef, a'.tmps.getD 133 undef, a'.tmps.getD 134 undef, a'.tmps.getD 135 undef, a'.tmps.getD 136 undef, a'.tmps.getD 137 undef, a'.tmps.getD 138 undef, a'.tmps.getD 139 undef, a'.tmps.getD 140 undef, a'.tmps.getD 141 undef, a'.tmps.getD 142 undef, a'.tmps.getD 143 undef, a'.tmps.getD 144 undef, a'.tmps.getD 145 undef, a'.tmps.getD 146 undef, a'.tmps.getD 147 undef], defers := dl }) (fun a' _ => live.length - (intOf (a'.tmps.getD 23 undef)).toNat) ?_ ?_
              · exact ⟨0, [], Nat.zero_le _, S3, S2, ⟨Marks.nil _ _⟩, rfl⟩
              · clear S2 S3
                rintro a' wr ⟨i, dl, hi, Y1, Y2, Y3, ha⟩
                have hmu : live.length - (intOf (a'.tmps.getD 23 undef)).toNat = live.length - i := by rw [ha]; simp [intOf]
                rw [hmu]
                clear hmu
                generalize a'.tmps.getD 1 undef = u1 at ha
                generalize a'.tmps.getD 2 undef = u2 at ha
                generalize a'.tmps.getD 3 undef = u3 at ha
                generalize a'.tmps.getD 4 undef = u4 at ha
                generalize a'.tmps.getD 5 undef = u5 at ha
                generalize a'.tmps.getD 6 undef = u6 at ha
                generalize a'.tmps.getD 7 undef = u7 at ha
                generalize a'.tmps.getD 8 undef = u8 at ha
                generalize a'.tmps.getD 9 undef = u9 at ha
                generalize a'.tmps.getD 10 undef = u10 at ha
                generalize a'.tmps.getD 11 undef = u11 at ha
                generalize a'.tmps.getD 14 undef = u14 at ha
                generalize a'.tmps.getD 15 undef = u15 at ha
                generalize a'.tmps.getD 16 undef = u16 at ha
                generalize a'.tmps.getD 17 undef = u17 at ha
                generalize a'.tmps.getD 21 undef = u21 at ha
                generalize a'.tmps.getD 22 undef = u22 at ha
                generalize a'.tmps.getD 24 undef = u24 at ha
                generalize a'.tmps.getD 25 undef = u25 at ha
                generalize a'.tmps.getD 26 undef = u26 at ha
                generalize a'.tmps.getD 27 undef = u27 at ha
                generalize a'.tmps.getD 28 undef = u28 at ha
                generalize a'.tmps.getD 29 undef = u29 at ha
                generalize a'.tmps.getD 30 undef = u30 at ha
                generalize a'.tmps.getD 31 undef = u31 at ha
                generalize a'.tmps.getD 32 undef = u32 at ha
                generalize a'.tmps.getD 33 undef = u33 at ha
                generalize a'.tmps.getD 34 undef = u34 at ha
                generalize a'.tmps.getD 35 undef = u35 at ha
                generalize a'.tmps.getD 36 undef = u36 at ha
                generalize a'.tmps.getD 37 undef = u37 at ha
                generalize a'.tmps.getD 38 undef = u38 at ha
                generalize a'.tmps.getD 39 undef = u39 at ha
                generalize a'.tmps.getD 40 undef = u40 at ha
                generalize a'.tmps.getD 41 undef = u41 at ha
                generalize a'.tmps.getD 42 undef = u42 at ha
                generalize a'.tmps.getD 43 undef = u43 at ha
                generalize a'.tmps.getD 44 undef = u44 at ha
                generalize a'.tmps.getD 45 undef = u45 at ha
                generalize a'.tmps.getD 46 undef = u46 at ha
                generalize a'.tmps.getD 47 undef = u47 at ha
                generalize a'.tmps.getD 48 undef = u48 at ha
                generalize a'.tmps.getD 49 undef = u49 at ha
                generalize a'.tmps.getD 50 undef = u50 at ha
                generalize a'.tmps.getD 51 undef = u51 at ha
                generalize a'.tmps.getD 52 undef = u52 at ha
                generalize a'.tmps.getD 53 undef = u53 at ha
                generalize a'.tmps.getD 54 undef = u54 at ha
                generalize a'.tmps.getD 55 undef = u55 at ha
                generalize a'.tmps.getD 56 undef = u56 at ha
                generalize a'.tmps.getD 57 undef = u57 at ha
                generalize a'.tmps.getD 58 undef = u58 at ha
                generalize a'.tmps.getD 59 undef = u59 at ha
                generalize a'.tmps.getD 60 undef = u60 at ha
                generalize a'.tmps.getD 61 undef = u61 at ha
                generalize a'.tmps.getD 62 undef = u62 at ha
                generalize a'.tmps.getD 63 undef = u63 at ha
                generalize a'.tmps.getD 64 undef = u64 at ha
                generalize a'.tmps.getD 65 undef = u65 at ha
                generalize a'.tmps.getD 66 undef = u66 at ha
                generalize a'.tmps.getD 67 undef = u67 at ha
                generalize a'.tmps.getD 68 undef = u68 at ha
                generalize a'.tmps.getD 69 undef = u69 at ha
                generalize a'.tmps.getD 70 undef = u70 at ha
                generalize a'.tmps.getD 71 undef = u71 at ha
                generalize a'.tmps.getD 72 undef = u72 at ha
                generalize a'.tmps.getD 73 undef = u73 at ha
                generalize a'.tmps.getD 74 undef = u74 at ha
                generalize a'.tmps.getD 75 undef = u75 at ha
                generalize a'.tmps.getD 76 undef = u76 at ha
                generalize a'.tmps.getD 77 undef = u77 at ha
                generalize a'.tmps.getD 78 undef = u78 at ha
                generalize a'.tmps.getD 79 undef = u79 at ha
                generalize a'.tmps.getD 80 undef = u80 at ha
                generalize a'.tmps.getD 81 undef = u81 at ha
                generalize a'.tmps.getD 82 undef = u82 at ha
                generalize a'.tmps.getD 83 undef = u83 at ha
                generalize a'.tmps.getD 84 undef = u84 at ha
                generalize a'.tmps.getD 85 undef = u85 at ha
                generalize a'.tmps.getD 86 undef = u86 at ha
                generalize a'.tmps.getD 87 undef = u87 at ha
                generalize a'.tmps.getD 88 undef = u88 at ha
                generalize a'.tmps.getD 89 undef = u89 at ha
                generalize a'.tmps.getD 90 undef = u90 at ha
                generalize a'.tmps.getD 91 undef = u91 at ha
                generalize a'.tmps.getD 92 undef = u92 at ha
                generalize a'.tmps.getD 93 undef = u93 at ha
                generalize a'.tmps.getD 94 undef = u94 at ha
                generalize a'.tmps.getD 95 undef = u95 at ha
                generalize a'.tmps.getD 96 undef = u96 at ha
                generalize a'.tmps.getD 97 undef = u97 at ha
                generalize a'.tmps.getD 98 undef = u98 at ha
                generalize a'.tmps.getD 99 undef = u99 at ha
                generalize a'.tmps.getD 100 undef = u100 at ha
                generalize a'.tmps.getD 101 undef = u101 at ha
                generalize a'.tmps.getD 102 undef = u102 at ha
                generalize a'.tmps.getD 103 undef = u103 at ha
                generalize a'.tmps.getD 104 undef = u104 at ha
                generalize a'.tmps.getD 105 undef = u105 at ha
                generalize a'.tmps.getD 106 undef = u106 at ha
                generalize a'.tmps.getD 107 undef = u107 at ha
                generalize a'.tmps.getD 108 undef = u108 at ha
                generalize a'.tmps.getD 109 undef = u109 at ha
                generalize a'.tmps.getD 110 undef = u110 at ha
                generalize a'.tmps.getD 111 undef = u111 at ha
                generalize a'.tmps.getD 112 undef = u112 at ha
                generalize a'.tmps.getD 113 undef = u113 at ha
                generalize a'.tmps.getD 114 undef = u114 at ha
                generalize a'.tmps.getD 115 undef = u115 at ha
                generalize a'.tmps.getD 116 undef = u116 at ha
                generalize a'.tmps.getD 117 undef = u117 at ha
                generalize a'.tmps.getD 118 undef = u118 at ha
                generalize a'.tmps.getD 119 undef = u119 at ha
                generalize a'.tmps.getD 120 undef = u120 at ha
                generalize a'.tmps.getD 121 undef = u121 at ha
                generalize a'.tmps.getD 122 undef = u122 at ha
                generalize a'.tmps.getD 123 undef = u123 at ha
                generalize a'.tmps.getD 124 undef = u124 at ha
                generalize a'.tmps.getD 125 undef = u125 at ha
                generalize a'.tmps.getD 126 undef = u126 at ha
                generalize a'.tmps.getD 127 undef = u127 at ha
                generalize a'.tmps.getD 128 undef = u128 at ha
                generalize a'.tmps.getD 129 undef = u129 at ha
                generalize a'.tmps.getD 130 undef = u130 at ha
                generalize a'.tmps.getD 131 undef = u131 at ha
                generalize a'.tmps.getD 132 undef = u132 at ha
                generalize a'.tmps.getD 133 undef = u133 at ha
                generalize a'.tmps.getD 134 undef = u134 at ha
                generalize a'.tmps.getD 135 undef = u135 at ha
                generalize a'.tmps.getD 136 undef = u136 at ha
                generalize a'.tmps.getD 137 undef = u137 at ha
                generalize a'.tmps.getD 138 undef = u138 at ha
                generalize a'.tmps.getD 139 undef = u139 at ha
                generalize a'.tmps.getD 140 undef = u140 at ha
                generalize a'.tmps.getD 141 undef = u141 at ha
                generalize a'.tmps.getD 142 undef = u142 at ha
                generalize a'.tmps.getD 143 undef = u143 at ha
                generalize a'.tmps.getD 144 undef = u144 at ha
                generalize a'.tmps.getD 145 undef = u145 at ha
                generalize a'.tmps.getD 146 undef = u146 at ha
                generalize a'.tmps.getD 147 undef = u147 at ha
                subst ha
                obtain ⟨dv, sv, vs, us, ea1, hS⟩ := Y1.out
                obtain ⟨Ad, cd, hdv, _⟩ := hS.d.own.shape
                subst hdv
                have hl1 := hS.d.len
                rw [hl1] at hS
                obtain ⟨N, hN⟩ : ∃ N, N = (rnds live traps i st).1.ds.length := ⟨_, rfl⟩
                have hle := ((OR.out i).s).le
                rw [← hN] at hS hi hle
                have c1 := hS.xD.cell
                have HS := Kp.mk hS
                have HN := Kp.mk hN
                have HL := Kp.mk hl1
                clear hS hN hl1 Y1
                have i0 : (0 : Int) ≤ (i : Int) := by omega
                by_cases hlt : i < N
                · have i1 : (i : Int) < (N : Int) := by omega
                  obtain ⟨x, hx⟩ : ∃ x, vs[i]? = some x := ⟨_, List.getElem?_eq_getElem (by have := HL.out; have := HN.out; omega)⟩
                  obtain ⟨d, hdk⟩ : ∃ d, (rnds live traps i st).1.ds[i]? = some d := ⟨_, List.getElem?_eq_getElem (by have := HN.out; omega)⟩
                  obtain ⟨hpd, hnd, htx⟩ := HS.out.d.tx i x d hx hdk
                  obtain ⟨xp, xA, xn, xc⟩ := x
                  obtain ⟨dp, dr⟩ := d
                  unfold tb at htx
                  simp only at hpd hnd htx
                  subst hpd hnd
                  obtain ⟨ad, rfl⟩ : ∃ ad, Ad = some ad := by
                    cases Ad with
                    | none => have h9 := ((HS.out.d.own.src rfl).none rfl).1; rw [h9] at hx; simp at hx
                    | some ad => exact ⟨ad, rfl⟩
                  obtain ⟨g, o, rfl⟩ := (HS.out.d.own.src rfl).addr (by have := HL.out; have := HN.out; omega)
                  obtain ⟨a0, a1⟩ := (HS.out.d.own.src rfl).dv i _ hx
                  simp only at a0 a1
                  have HDK := Kp.mk hdk
                  have HX := Kp.mk hx
                  clear hx hdk
                  have hbx : Below wr.heap.size wr (wr.alloc (.cells #[.int .i64 xp, .slice xA dr.length xc] 48)) := (Below.refl _ _).alloc (Nat.le_refl _) _
                  have hS1 := HS.out.below hbx
                  have hdp : decide (IsPid xp) = true := decide_eq_true (by
                    obtain ⟨i, hi⟩ := List.mem_iff_getElem?.1 ((OR.out i).s.live _ (List.mem_of_getElem? HDK.out))
                    exact badP_pid HOK.out.1 hi)
                  have HE := Kp.mk (end_any sortC _ p bm lm rm (rnds live traps i st).2 last xp hS1.g hla hdp)
                  have HS1 := Kp.mk hS1
                  have HBX := Kp.mk (blk_new wr (.cells #[.int .i64 xp, .slice xA dr.length xc] 48))
                  have H31 := Kp.mk (Boxed.alloc Y2.out (.cells #[.int .i64 xp, .slice xA dr.length xc] 48))
                  have Y31 := Kp.mk (Y3.out.frame (fun r _ h => blk_alloc h (.cells #[.int .i64 xp, .slice xA dr.length xc] 48)))
                  clear hS1 hbx hdp
                  gi_wp2
                  refine wpIn_scope_straight ?_
                  gi_wp2_with (gi_at_call 26; refine (callsIn_wide.2 HE.out).mono ?_; rintro e w4 ⟨v4, rfl, o4, f4, c4, g4⟩; obtain ⟨Ab, cb, rfl, _⟩ := o4.shape; have O4 := Kp.mk o4; have F4 := Kp.mk f4; have C4 := Kp.mk c4; have G4 := Kp.mk g4; clear o4 f4 c4 g4)
                  refine wpIn_label ?_
                  obtain ⟨L, hL⟩ : ∃ L, L = told xp (List.map (fun x => x.2) (rnds live traps i st).2) := ⟨_, rfl⟩
                  rw [← hL] at O4 F4 ⊢
                  obtain ⟨m, hm⟩ : ∃ m, m = L.length := ⟨_, rfl⟩
                  rw [← hm] at O4 F4 ⊢
                  have HLL := Kp.mk hL
                  have HMM := Kp.mk hm
                  clear hL hm
                  gi_wp2_with (gi_at_call 27; refine (values_in Fence.wide 9 f4 rfl _ _ _ _).mono ?_; rintro e w5 ⟨rfl, rfl⟩)
                  obtain ⟨db, hdb⟩ : ∃ db, db = wr.heap.size := ⟨_, rfl⟩
                  rw [← hdb] at HBX ⊢
                  obtain ⟨V4, hV4⟩ : ∃ V4, V4 = w4.alloc (.cells #[.slice Ab m cb] 41) := ⟨_, rfl⟩
                  rw [← hV4]
                  have hb4 : Below w4.heap.size w4 V4 := by rw [hV4]; exact (Below.refl _ _).alloc (Nat.le_refl _) _
                  have sB4 : Boxed V4 w4.heap.size 41 (.slice Ab m cb) := by rw [hV4]; exact Boxed.new _ _ _
                  have hS4 := (HS1.out.ended C4.out G4.out).below hb4
                  have ofg : ∀ g, w.heap.size ≤ g → ¬ FG p bm lm rm g := fun g hg hf => by have := HS.out.old g hf; omega
                  have hws := HS.out.chg.size
                  have hR4 : Rest V4 V4 bA bD bF db xp xA dr xc Ab m cb L :=
                    ⟨(Chg.of_below hb4 NoF).at (C4.out.at H31.out (ofg _ GF.out)) (fun h => h), (Chg.of_below hb4 NoF).at (C4.out.at HBX.out (ofg _ (by omega))) (fun h => h),
                      ((htx.alloc (.cells #[.int .i64 xp, .slice xA dr.length xc] 48)).frame C4.out (fun g hg => ofg g (HS.out.d.frs _ (List.mem_of_getElem? HX.out) g hg))).below hb4, O4.out.below hb4, fun r h => h⟩
                  have hne4 : ∀ {lA : Option Addr} {lc : Nat}, Own wr 48 eDv (.slice lA N lc) vs → (Value.slice lA N lc).ownBlock ≠ some db := fun ho h => by have := ho.lt h; omega
                  have hne5 := hne4 HS.out.d.own
                  obtain ⟨LL, hLL⟩ := lift_bg L (fun x hx => by
                    rw [HLL.out] at hx
                    obtain ⟨y, hy, rfl⟩ := List.mem_map.1 (List.mem_filter.1 hx).1
                    exact HS.out.g.ok.good _ hy)
                  have hmL : m = LL.length := by rw [HMM.out, ← hLL, List.length_map]
                  have oB4 := O4.out.below hb4
                  rw [← hLL] at oB4
                  have hm4 : m ≤ 1000000 := by
                    have h1 := HMM.out
                    rw [HLL.out] at h1
                    have h2 := told_len xp (List.map (fun x => x.2) (rnds live traps i st).2)
                    rw [List.length_map] at h2
                    have h3 := HS.out.g.ok.len
                    omega
                  have M4 : Kp (Marks V4 w.heap.size dl) := ⟨by
                    refine (Y31.out.frame (fun r hB hr => C4.out.at hr (ofg _ hB))).frame (fun r hB hr => (Chg.of_below hb4 NoF).at hr (fun h => h))⟩
                  have hV4s : w.heap.size ≤ V4.heap.size := hS4.chg.size
                  have HS4 := Kp.mk hS4
                  have HR4 := Kp.mk hR4
                  have HOB := Kp.mk oB4
                  have HLV := Kp.mk hLL
                  have HSB := Kp.mk sB4
                  have HML := Kp.mk hmL
                  have amlt := hS4.mA.lt
                  have tmlt := hS4.mT.lt
                  clear hV4 hb4 hS4 hR4 oB4 hLL sB4 hmL ofg hne4 htx a0 a1 HE hdb
                  refine wpIn_rangeFunc_ownH rfl (by decide) (gf := 61) (lb := #[.pointer (some ⟨w4.heap.size, 0, none⟩)]) rfl f5 (enters_of Tryz.func61 (by kernel_rfl) rfl)
                    (val_stops Fence.wide 9 f5 rfl (by decide) V4 w4.heap.size Ab cb m LL HML.out hm4 (fun k => (Value.slice Ab m cb).ownBlock ≠ some k) (fun g hg h => h hg) HSB.out HOB.out) (fun h k => KpI.trans h k) (fun W' l' o o' _ ho hc _ => KpI.of_chg (putObj_chg' W' l' o') (fun k hk => .inr ⟨o, hk ▸ ho, hc⟩)) (Below.refl _ _) (fun _ => rfl)
                    (fun pre V => (∃ dv sv vs us ea, SI w V p bm lm rm am tm bA bT bD bS live traps ((pre.map (·.1)).foldl (bond1 live traps ⟨xp, dr⟩) (rnds live traps i st).1) (leftN xp (rnds live traps i st).2) last dv sv vs us ea et ∧ dv.ownBlock ≠ some db) ∧ Rest V4 V bA bD bF db xp xA dr xc Ab m cb L)
                    (fun _ _ _ => False)
                    (fun s X Y row hs hg hr => by
                      obtain ⟨⟨dv, sv, vs, us, ea, h, hn⟩, hrest⟩ := hs
                      exact ⟨⟨dv, sv, vs, us, ea, h.turnF (chg_grown hg) (fun g e => by have := (hr g e).1; exact ⟨by omega, by omega, by omega, (hr g e).2⟩), hn⟩, hrest.turn (chg_grown hg) (fun g e => hr g e)⟩)
                    (fun c s X Y row h _ _ => h)
                    ⟨⟨_, _, _, _, _, HS4.out, hne5⟩, HR4.out⟩
                    (fun x a' V => ∃ Bx, V.heap[Bx]? = some (.cells #[.int .i64 x.1.a, .int .i64 x.1.b, .int .i64 x.1.r] 71 (0, 0)) ∧ a' = { tmps := #[.pointer (some ⟨p, 0, none⟩), a'.tmps.getD 1 undef, a'.tmps.getD 2 undef, a'.tmps.getD 3 undef, a'.tmps.getD 4 undef, a'.tmps.getD 5 undef, a'.tmps.getD 6 undef, a'.tmps.getD 7 undef, a'.tmps.getD 8 undef, a'.tmps.getD 9 undef, a'.tmps.getD 10 undef, a'.tmps.getD 11 undef, .pointer (some ⟨bA, 0, none⟩), .pointer (some ⟨bT, 0, none⟩), a'.tmps.getD 14 undef, a'.tmps.getD 15 undef, a'.tmps.getD 16 undef, a'.tmps.getD 17 undef, .pointer (some ⟨bD, 0, none⟩), .pointer (some ⟨bS, 0, none⟩), .pointer (some ⟨bF, 0, none⟩), a'.tmps.getD 21 undef, a'.tmps.getD 22 undef, a'.tmps.getD 23 undef, .pointer (some ⟨db, 0, none⟩), a'.tmps.getD 25 undef, a'.tmps.getD 26 undef, .pointer (some ⟨Bx, 0, none⟩), a'.tmps.getD 28 undef, a'.tmps.getD 29 undef, a'.tmps.getD 30 undef, a'.tmps.getD 31 undef, a'.tmps.getD 32 undef, a'.tmps.getD 33 undef, a'.tmps.getD 34 undef, a'.tmps.getD 35 undef, a'.tmps.getD 36 undef, a'.tmps.getD 37 undef, a'.tmps.getD 38 undef, a'.tmps.getD 39 undef, a'.tmps.getD 40 undef, a'.tmps.getD 41 undef, a'.tmps.getD 42 undef, a'.tmps.getD 43 undef, a'.tmps.getD 44 undef, a'.tmps.getD 45 undef, a'.tmps.getD 46 undef, a'.tmps.getD 47 undef, a'.tmps.getD 48 undef, a'.tmps.getD 49 undef, a'.tmps.getD 50 undef, a'.tmps.getD 51 undef, a'.tmps.getD 52 undef, a'.tmps.getD 53 undef, a'.tmps.getD 54 undef, a'.tmps.getD 55 undef, a'.tmps.getD 56 undef, a'.tmps.getD 57 undef, a'.tmps.getD 58 undef, a'.tmps.getD 59 undef, a'.tmps.getD 60 undef, a'.tmps.getD 61 undef, a'.tmps.getD 62 undef, a'.tmps.getD 63 undef, a'.tmps.getD 64 undef, a'.tmps.getD 65 undef, a'.tmps.getD 66 undef, a'.tmps.getD 67 undef, a'.tmps.getD 68 undef, a'.tmps.getD 69 undef, a'.tmps.getD 70 undef, a'.tmps.getD 71 undef, a'.tmps.getD 72 undef, a'.tmps.getD 73 undef, a'.tmps.getD 74 undef, a'.tmps.getD 75 undef, a'.tmps.getD 76 undef, a'.tmps.getD 77 undef, a'.tmps.getD 78 undef, a'.tmps.getD 79 undef, a'.tmps.getD 80 undef, a'.tmps.getD 81 undef, a'.tmps.getD 82 undef, a'.tmps.getD 83 undef, a'.tmps.getD 84 undef, a'.tmps.getD 85 undef, a'.tmps.getD 86 undef, a'.tmps.getD 87 undef, a'.tmps.getD 88 undef, a'.tmps.getD 89 undef, a'.tmps.getD 90 undef, a'.tmps.getD 91 undef, a'.tmps.getD 92 undef, a'.tmps.getD 93 undef, a'.tmps.getD 94 undef, a'.tmps.getD 95 undef, a'.tmps.getD 96 undef, a'.tmps.getD 97 undef, a'.tmps.getD 98 undef, a'.tmps.getD 99 undef, a'.tmps.getD 100 undef, a'.tmps.getD 101 undef, a'.tmps.getD 102 undef, a'.tmps.getD 103 undef, a'.tmps.getD 104 undef, a'.tmps.getD 105 undef, a'.tmps.getD 106 undef, a'.tmps.getD 107 undef, a'.tmps.getD 108 undef, a'.tmps.getD 109 undef, a'.tmps.getD 110 undef, a'.tmps.getD 111 undef, a'.tmps.getD 112 undef, a'.tmps.getD 113 undef, a'.tmps.getD 114 undef, a'.tmps.getD 115 undef, a'.tmps.getD 116 undef, a'.tmps.getD 117 undef, a'.tmps.getD 118 undef, a'.tmps.getD 119 undef, a'.tmps.getD 120 undef, a'.tmps.getD 121 undef, a'.tmps.getD 122 undef, a'.tmps.getD 123 undef, a'.tmps.getD 124 undef, a'.tmps.getD 125 undef, a'.tmps.getD 126 undef, a'.tmps.getD 127 undef, a'.tmps.getD 128 undef, a'.tmps.getD 129 undef, a'.tmps.getD 130 undef, a'.tmps.getD 131 undef, a'.tmps.getD 132 undef, a'.tmps.getD 133 undef, a'.tmps.getD 134 undef, a'.tmps.getD 135 undef, a'.tmps.getD 136 undef, a'.tmps.getD 137 undef, a'.tmps.getD 138 undef, a'.tmps.getD 139 undef, a'.tmps.getD 140 undef, a'.tmps.getD 141 undef, a'.tmps.getD 142 undef, a'.tmps.getD 143 undef, a'.tmps.getD 144 undef, a'.tmps.getD 145 undef, a'.tmps.getD 146 undef, a'.tmps.getD 147 undef], defers := [] })
                    (fun x a' s X Y row hs hg hr => by
                      obtain ⟨Bx, hb, ha⟩ := hs
                      refine ⟨Bx, (hg.block _ (lt_of_block hb) (fun e => ?_)).trans hb, ha⟩
                      obtain ⟨_, o, ho, hc⟩ := hr Bx e.symm
                      rw [hb] at ho; cases ho; cases hc)
                    ?assign ?body ?done ?stop
                  case assign =>
                    rintro l' pre x V K ⟨⟨dv, sv, vs, us, ea, hs, hn⟩, hrest⟩ hK
                    have hbv : Below V.heap.size V (V.alloc (.cells #[.int .i64 x.1.a, .int .i64 x.1.b, .int .i64 x.1.r] 71)) := (Below.refl _ _).alloc (Nat.le_refl _) _
                    have HI1 := Kp.mk (hs.below hbv)
                    have HI2 := Kp.mk (hrest.below hbv)
                    have HN9 := Kp.mk hn
                    have HK := Kp.mk hK
                    clear hs hn hrest hbv hK
                    unfold vB
                    gi_wp2
                    exact HK.out _ _ ((KeepsOthers.alloc _ _).from _) ((KpI.refl _ V).alloc _) ⟨⟨dv, sv, vs, us, ea, HI1.out, HN9.out⟩, HI2.out⟩ ⟨V.heap.size, blk_new V _, rfl⟩
                  case body =>
                    rintro l' pre x a' V hl' _ ⟨⟨dv, sv, vs, us, ea, hs, hn⟩, hrest⟩ ⟨Bx, hbx, ha⟩ hlt
                    generalize a'.tmps.getD 1 undef = u1 at ha
                    generalize a'.tmps.getD 2 undef = u2 at ha
                    generalize a'.tmps.getD 3 undef = u3 at ha
                    generalize a'.tmps.getD 4 undef = u4 at ha
                    generalize a'.tmps.getD 5 undef = u5 at ha
                    generalize a'.tmps.getD 6 undef = u6 at ha
                    generalize a'.tmps.getD 7 undef = u7 at ha
                    generalize a'.tmps.getD 8 undef = u8 at ha
                    generalize a'.tmps.getD 9 undef = u9 at ha
                    generalize a'.tmps.getD 10 undef = u10 at ha
                    generalize a'.tmps.getD 11 undef = u11 at ha
                    generalize a'.tmps.getD 14 undef = u14 at ha
                    generalize a'.tmps.getD 15 undef = u15 at ha
                    generalize a'.tmps.getD 16 undef = u16 at ha
                    generalize a'.tmps.getD 17 undef = u17 at ha
                    generalize a'.tmps.getD 21 undef = u21 at ha
                    generalize a'.tmps.getD 22 undef = u22 at ha
                    generalize a'.tmps.getD 23 undef = u23 at ha
                    generalize a'.tmps.getD 25 undef = u25 at ha
                    generalize a'.tmps.getD 26 undef = u26 at ha
                    generalize a'.tmps.getD 28 undef = u28 at ha
                    generalize a'.tmps.getD 29 undef = u29 at ha
                    generalize a'.tmps.getD 30 undef = u30 at ha
                    generalize a'.tmps.getD 31 undef = u31 at ha
                    generalize a'.tmps.getD 32 undef = u32 at ha
                    generalize a'.tmps.getD 33 undef = u33 at ha
                    generalize a'.tmps.getD 34 undef = u34 at ha
                    generalize a'.tmps.getD 35 undef = u35 at ha
                    generalize a'.tmps.getD 36 undef = u36 at ha
                    generalize a'.tmps.getD 37 undef = u37 at ha
                    generalize a'.tmps.getD 38 undef = u38 at ha
                    generalize a'.tmps.getD 39 undef = u39 at ha
                    generalize a'.tmps.getD 40 undef = u40 at ha
                    generalize a'.tmps.getD 41 undef = u41 at ha
                    generalize a'.tmps.getD 42 undef = u42 at ha
                    generalize a'.tmps.getD 43 undef = u43 at ha
                    generalize a'.tmps.getD 44 undef = u44 at ha
                    generalize a'.tmps.getD 45 undef = u45 at ha
                    generalize a'.tmps.getD 46 undef = u46 at ha
                    generalize a'.tmps.getD 47 undef = u47 at ha
                    generalize a'.tmps.getD 48 undef = u48 at ha
                    generalize a'.tmps.getD 49 undef = u49 at ha
                    generalize a'.tmps.getD 50 undef = u50 at ha
                    generalize a'.tmps.getD 51 undef = u51 at ha
                    generalize a'.tmps.getD 52 undef = u52 at ha
                    generalize a'.tmps.getD 53 undef = u53 at ha
                    generalize a'.tmps.getD 54 undef = u54 at ha
                    generalize a'.tmps.getD 55 undef = u55 at ha
                    generalize a'.tmps.getD 56 undef = u56 at ha
                    generalize a'.tmps.getD 57 undef = u57 at ha
                    generalize a'.tmps.getD 58 undef = u58 at ha
                    generalize a'.tmps.getD 59 undef = u59 at ha
                    generalize a'.tmps.getD 60 undef = u60 at ha
                    generalize a'.tmps.getD 61 undef = u61 at ha
                    generalize a'.tmps.getD 62 undef = u62 at ha
                    generalize a'.tmps.getD 63 undef = u63 at ha
                    generalize a'.tmps.getD 64 undef = u64 at ha
                    generalize a'.tmps.getD 65 undef = u65 at ha
                    generalize a'.tmps.getD 66 undef = u66 at ha
                    generalize a'.tmps.getD 67 undef = u67 at ha
                    generalize a'.tmps.getD 68 undef = u68 at ha
                    generalize a'.tmps.getD 69 undef = u69 at ha
                    generalize a'.tmps.getD 70 undef = u70 at ha
                    generalize a'.tmps.getD 71 undef = u71 at ha
                    generalize a'.tmps.getD 72 undef = u72 at ha
                    generalize a'.tmps.getD 73 undef = u73 at ha
                    generalize a'.tmps.getD 74 undef = u74 at ha
                    generalize a'.tmps.getD 75 undef = u75 at ha
                    generalize a'.tmps.getD 76 undef = u76 at ha
                    generalize a'.tmps.getD 77 undef = u77 at ha
                    generalize a'.tmps.getD 78 undef = u78 at ha
                    generalize a'.tmps.getD 79 undef = u79 at ha
                    generalize a'.tmps.getD 80 undef = u80 at ha
                    generalize a'.tmps.getD 81 undef = u81 at ha
                    generalize a'.tmps.getD 82 undef = u82 at ha
                    generalize a'.tmps.getD 83 undef = u83 at ha
                    generalize a'.tmps.getD 84 undef = u84 at ha
                    generalize a'.tmps.getD 85 undef = u85 at ha
                    generalize a'.tmps.getD 86 undef = u86 at ha
                    generalize a'.tmps.getD 87 undef = u87 at ha
                    generalize a'.tmps.getD 88 undef = u88 at ha
                    generalize a'.tmps.getD 89 undef = u89 at ha
                    generalize a'.tmps.getD 90 undef = u90 at ha
                    generalize a'.tmps.getD 91 undef = u91 at ha
                    generalize a'.tmps.getD 92 undef = u92 at ha
                    generalize a'.tmps.getD 93 undef = u93 at ha
                    generalize a'.tmps.getD 94 undef = u94 at ha
                    generalize a'.tmps.getD 95 undef = u95 at ha
                    generalize a'.tmps.getD 96 undef = u96 at ha
                    generalize a'.tmps.getD 97 undef = u97 at ha
                    generalize a'.tmps.getD 98 undef = u98 at ha
                    generalize a'.tmps.getD 99 undef = u99 at ha
                    generalize a'.tmps.getD 100 undef = u100 at ha
                    generalize a'.tmps.getD 101 undef = u101 at ha
                    generalize a'.tmps.getD 102 undef = u102 at ha
                    generalize a'.tmps.getD 103 undef = u103 at ha
                    generalize a'.tmps.getD 104 undef = u104 at ha
                    generalize a'.tmps.getD 105 undef = u105 at ha
                    generalize a'.tmps.getD 106 undef = u106 at ha
                    generalize a'.tmps.getD 107 undef = u107 at ha
                    generalize a'.tmps.getD 108 undef = u108 at ha
                    generalize a'.tmps.getD 109 undef = u109 at ha
                    generalize a'.tmps.getD 110 undef = u110 at ha
                    generalize a'.tmps.getD 111 undef = u111 at ha
                    generalize a'.tmps.getD 112 undef = u112 at ha
                    generalize a'.tmps.getD 113 undef = u113 at ha
                    generalize a'.tmps.getD 114 undef = u114 at ha
                    generalize a'.tmps.getD 115 undef = u115 at ha
                    generalize a'.tmps.getD 116 undef = u116 at ha
                    generalize a'.tmps.getD 117 undef = u117 at ha
                    generalize a'.tmps.getD 118 undef = u118 at ha
                    generalize a'.tmps.getD 119 undef = u119 at ha
                    generalize a'.tmps.getD 120 undef = u120 at ha
                    generalize a'.tmps.getD 121 undef = u121 at ha
                    generalize a'.tmps.getD 122 undef = u122 at ha
                    generalize a'.tmps.getD 123 undef = u123 at ha
                    generalize a'.tmps.getD 124 undef = u124 at ha
                    generalize a'.tmps.getD 125 undef = u125 at ha
                    generalize a'.tmps.getD 126 undef = u126 at ha
                    generalize a'.tmps.getD 127 undef = u127 at ha
                    generalize a'.tmps.getD 128 undef = u128 at ha
                    generalize a'.tmps.getD 129 undef = u129 at ha
                    generalize a'.tmps.getD 130 undef = u130 at ha
                    generalize a'.tmps.getD 131 undef = u131 at ha
                    generalize a'.tmps.getD 132 undef = u132 at ha
                    generalize a'.tmps.getD 133 undef = u133 at ha
                    generalize a'.tmps.getD 134 undef = u134 at ha
                    generalize a'.tmps.getD 135 undef = u135 at ha
                    generalize a'.tmps.getD 136 undef = u136 at ha
                    generalize a'.tmps.getD 137 undef = u137 at ha
                    generalize a'.tmps.getD 138 undef = u138 at ha
                    generalize a'.tmps.getD 139 undef = u139 at ha
                    generalize a'.tmps.getD 140 undef = u140 at ha
                    generalize a'.tmps.getD 141 undef = u141 at ha
                    generalize a'.tmps.getD 142 undef = u142 at ha
                    generalize a'.tmps.getD 143 undef = u143 at ha
                    generalize a'.tmps.getD 144 undef = u144 at ha
                    generalize a'.tmps.getD 145 undef = u145 at ha
                    generalize a'.tmps.getD 146 undef = u146 at ha
                    generalize a'.tmps.getD 147 undef = u147 at ha
                    subst ha
                    obtain ⟨⟨xa, xb, xr⟩, hgood⟩ := x
                    simp only at hbx
                    have hpost : ∀ (S : SS) (dv' sv' : Value) (vs' us' : List Dv) (ea' : List (Int × Value)) (V' : World), bond1 live traps ⟨xp, dr⟩ ((pre.map (·.1)).foldl (bond1 live traps ⟨xp, dr⟩) (rnds live traps i st).1) ⟨xa, xb, xr⟩ = S →
                        SI w V' p bm lm rm am tm bA bT bD bS live traps S (leftN xp (rnds live traps i st).2) last dv' sv' vs' us' ea' et → dv'.ownBlock ≠ some db → Rest V4 V' bA bD bF db xp xA dr xc Ab m cb L →
                        (∃ dv sv vs us ea, SI w V' p bm lm rm am tm bA bT bD bS live traps (((pre ++ [(⟨⟨xa, xb, xr⟩, hgood⟩ : Bg)]).map (·.1)).foldl (bond1 live traps ⟨xp, dr⟩) (rnds live traps i st).1) (leftN xp (rnds live traps i st).2) last dv sv vs us ea et ∧ dv.ownBlock ≠ some db) ∧ Rest V4 V' bA bD bF db xp xA dr xc Ab m cb L := fun S dv' sv' vs' us' ea' V' e h hn hr => by
                      rw [List.map_append, List.foldl_append]
                      exact ⟨⟨_, _, _, _, _, by rw [← e] at h; exact h, hn⟩, hr⟩
                    have HPO := Kp.mk hpost
                    clear hpost
                    obtain ⟨S, hS⟩ : ∃ S, S = (pre.map (·.1)).foldl (bond1 live traps ⟨xp, dr⟩) (rnds live traps i st).1 := ⟨_, rfl⟩
                    rw [← hS] at hs HPO
                    have HTL : Kp (S.ts.length ≤ 3000000000000) := ⟨by
                      rw [hS]
                      have h1 := (fold_grow live traps ⟨xp, dr⟩ (pre.map (·.1)) (rnds live traps i st).1).2.2
                      have h2 := (OR.out i).len
                      have h3 := (OR.out 0).s.len HOK.out.1
                      rw [ST.out] at h3
                      have h4 := HG.out.ok.len
                      have h5 := HML.out
                      rw [List.length_map] at h1
                      have h6 : ds.length ≤ 1099511627776 := h3
                      omega⟩
                    have HSL : Kp (S.ds.length ≤ 1099511627776) := ⟨by
                      rw [hS]
                      exact (OkS.fold (d := ⟨xp, dr⟩) ((OR.out i).s.right _ (List.mem_of_getElem? HDK.out)) _ _ (OR.out i).s).len HOK.out.1⟩
                    clear hS
                    have b0 := blk_c hbx 0
                    have b1 := blk_c hbx 1
                    have b2 := blk_c hbx 2
                    have d0 := blk_c hrest.box 0
                    have d1 := blk_c hrest.box 1
                    have cA := hs.xA.cell
                    have cT := hs.xT.cell
                    have cF := hrest.clo.cell
                    unfold cloV at cF
                    have hlA : ∀ q, K2.ok q → (Instr.lookup 61 (.map (some am)) (.int .i64 q) false).run Tryz.prog V = .ok (.bool (aliveB live S.ds q)) V := fun q hq => by
                      have h1 := hs.mA.get Tryz.underlying61 (Tryz.zeroValue4 V) q hq
                      rw [hs.lA] at h1
                      cases h9 : aliveB live S.ds q <;> rw [h9] at h1 <;> exact h1
                    have hlT : ∀ q, K2.ok q → (Instr.lookup 61 (.map (some tm)) (.int .i64 q) false).run Tryz.prog V = .ok (.bool (decide (q ∈ traps))) V := fun q hq => by
                      have h1 := hs.mT.get Tryz.underlying61 (Tryz.zeroValue4 V) q hq
                      rw [hs.lT] at h1
                      by_cases h9 : q ∈ traps
                      · rw [if_pos h9] at h1; rw [decide_eq_true h9]; exact h1
                      · rw [if_neg h9] at h1; rw [decide_eq_false h9]; exact h1
                    have HS := Kp.mk hs
                    have HRS := Kp.mk hrest
                    have HNB := Kp.mk hn
                    have HLA := Kp.mk hlA
                    have HLT := Kp.mk hlT
                    have HGD := Kp.mk hgood
                    have HBX5 := Kp.mk hbx
                    clear hs hrest hn hlA hlT hbx
                    by_cases hxa : xa = xp
                    · have hb9 : (xa == xp) = true := by simpa using hxa
                      have hq : Kp (otherP xp ⟨xa, xb, xr⟩ = xb) := ⟨by unfold otherP; rw [if_pos hxa]⟩
                      have hok : K2.ok xb := okPid HGD.out.2.1
                      have la := HLA.out xb hok
                      have lt := HLT.out xb hok
                      clear hxa
                      cases hal : aliveB live S.ds xb
                      · rw [hal] at la
                        have e0 := Kp.mk (bond1_out (live := live) (traps := traps) (d := ⟨xp, dr⟩) (s := S) (b := ⟨xa, xb, xr⟩) (by rw [hq.out]; exact hal))
                        clear hal
                        gi_wp2
                        exact ⟨KeepsFrom.refl _ _, KpI.refl _ _, HPO.out _ _ _ _ _ _ _ e0.out HS.out HNB.out HRS.out⟩
                      · rw [hal] at la
                        have HAL := Kp.mk hal
                        clear hal
                        have HRT := Kp.mk ((OR.out i).s.right _ (List.mem_of_getElem? HDK.out))
                        have HIP := Kp.mk (badP_pid (l := pids (rnds live traps i st).1.ds) (k := i) (x := xp) (by
                          unfold badP
                          rw [List.any_eq_false]
                          intro y hy
                          obtain ⟨d9, hd9, rfl⟩ := List.mem_map.1 hy
                          obtain ⟨j9, hj9⟩ := List.mem_iff_getElem?.1 ((OR.out i).s.live _ hd9)
                          simpa using badP_pid HOK.out.1 hj9) (by unfold pids; rw [List.getElem?_map, HDK.out]; rfl))
                        by_cases hr0 : 0 < xr
                        · have hd9 : decide (xr > 0) = true := by simpa using hr0
                          have e0 := Kp.mk (bond1_down (live := live) (traps := traps) (d := ⟨xp, dr⟩) (s := S) (b := ⟨xa, xb, xr⟩) (by rw [hq.out]; exact HAL.out) hr0)
                          have hEX := down_any V xr xp xA xc dr (HRS.out.txt.src rfl) (by have := rightE_len (t := dr) HRT.out; omega) (HT.out V HS.out.chg)
                          have x0 : downE xr xp dr = 0 := by
                            unfold downE
                            rw [if_pos ⟨⟨by omega, by
                              rcases HGD.out.2.2 with ⟨h, _⟩ | ⟨_, h⟩
                              · simp only at h; omega
                              · exact h⟩, HIP.out⟩]
                            exact HRT.out
                          have x1 : downL xr xp dr = downM xr xp dr := by unfold downL; rw [if_pos x0]
                          rw [x0, x1] at hEX
                          have HEX := Kp.mk hEX
                          clear hr0 hEX x0 x1
                          obtain ⟨M, hM⟩ : ∃ M, M = downM xr xp dr := ⟨_, rfl⟩
                          rw [← hM] at HEX
                          have HM := Kp.mk hM
                          clear hM
                          have ML : us.length ≤ 3000000000000 := by
                            rw [HS.out.t.len]
                            exact HTL.out
                          gi_wp2_with (first | (gi_at_call 28; refine ((callsIn_wide.2 HEX.out).inRound _).mono ?_; rintro e w3 ⟨v3, rfl, o3, t3, bb⟩; obtain ⟨A3, c3, rfl, _⟩ := o3.shape; have O3 := Kp.mk o3; have T3 := Kp.mk t3; have BB := Kp.mk bb; have cS := (HS.out.below bb).xS.cell; have oS := (HS.out.below bb).t.own; clear o3 t3 bb) | (gi_at_builtin; refine app1_evIn TTv (⟨xb, A3, M.length, c3⟩ : Dv) rfl _ _ rfl oS rfl rfl rfl (by simp) rfl (by omega) (by omega) ?_; intro A4 n4 c4 w5 y0 y1 y2 y3; obtain ⟨z1, z2⟩ := HS.out.tell BB.out O3.out T3.out y1 y2 y3; have Z2 := Kp.mk z2; have hc5 := z1.cell; have hf5 := z1.frozen; have Y1 := Kp.mk y1; have Y2 := Kp.mk y2; have Z1 := Kp.mk z1; clear z2 y1 y2))
                          have hRB := HRS.out.below BB.out
                          have hSB := HS.out.below BB.out
                          obtain ⟨r1, r2, r3⟩ := hRB.step ((Y2.out.mono (G := fun g => g = bS ∨ sv.ownBlock = some g) (fun _ _ h => .inr h)).set (p := ⟨bS, 0, none⟩) (.inl (.inl rfl)) _) (fine_tell hSB.xS hSB.t.own hRB.box)
                          have e8 := e0.out
                          rw [hq.out, ← HM.out] at e8
                          exact ⟨(keepsFrom_below BB.out).trans r2, (KpI.of_chg (Chg.of_below BB.out NoF) (fun _ h => h.elim)).trans r3, HPO.out _ _ _ _ _ _ _ e8 Z2.out HNB.out r1⟩
                        · have hd9 : decide (xr > 0) = false := by simpa using hr0
                          by_cases htr : xb ∈ traps
                          · rw [decide_eq_true htr] at lt
                            have e0 := Kp.mk (bond1_exit (live := live) (traps := traps) (d := ⟨xp, dr⟩) (s := S) (b := ⟨xa, xb, xr⟩) (by rw [hq.out]; exact HAL.out) hr0 (by rw [hq.out]; exact htr))
                            have hEX := exit_any V xp xA xc dr (HRS.out.txt.src rfl) (by have := rightE_len (t := dr) HRT.out; omega) (HT.out V HS.out.chg)
                            have x0 : exitE xp dr = 0 := by unfold exitE; rw [if_pos HIP.out]; exact HRT.out
                            have x1 : exitL xp dr = exitM xp dr := by unfold exitL; rw [if_pos x0]
                            rw [x0, x1] at hEX
                            have HEX := Kp.mk hEX
                            clear htr hr0 hEX x0 x1
                            obtain ⟨M, hM⟩ : ∃ M, M = exitM xp dr := ⟨_, rfl⟩
                            rw [← hM] at HEX
                            have HM := Kp.mk hM
                            clear hM
                            have ML : us.length ≤ 3000000000000 := by
                              rw [HS.out.t.len]
                              exact HTL.out
                            gi_wp2_with (first | (gi_at_call 29; refine ((callsIn_wide.2 HEX.out).inRound _).mono ?_; rintro e w3 ⟨v3, rfl, o3, t3, bb⟩; obtain ⟨A3, c3, rfl, _⟩ := o3.shape; have O3 := Kp.mk o3; have T3 := Kp.mk t3; have BB := Kp.mk bb; have cS := (HS.out.below bb).xS.cell; have oS := (HS.out.below bb).t.own; clear o3 t3 bb) | (gi_at_builtin; refine app1_evIn TTv (⟨xb, A3, M.length, c3⟩ : Dv) rfl _ _ rfl oS rfl rfl rfl (by simp) rfl (by omega) (by omega) ?_; intro A4 n4 c4 w5 y0 y1 y2 y3; obtain ⟨z1, z2⟩ := HS.out.tell BB.out O3.out T3.out y1 y2 y3; have Z2 := Kp.mk z2; have hc5 := z1.cell; have hf5 := z1.frozen; have Y1 := Kp.mk y1; have Y2 := Kp.mk y2; have Z1 := Kp.mk z1; clear z2 y1 y2))
                            have hRB := HRS.out.below BB.out
                            have hSB := HS.out.below BB.out
                            obtain ⟨r1, r2, r3⟩ := hRB.step ((Y2.out.mono (G := fun g => g = bS ∨ sv.ownBlock = some g) (fun _ _ h => .inr h)).set (p := ⟨bS, 0, none⟩) (.inl (.inl rfl)) _) (fine_tell hSB.xS hSB.t.own hRB.box)
                            have e8 := e0.out
                            rw [hq.out, ← HM.out] at e8
                            exact ⟨(keepsFrom_below BB.out).trans r2, (KpI.of_chg (Chg.of_below BB.out NoF) (fun _ h => h.elim)).trans r3, HPO.out _ _ _ _ _ _ _ e8 Z2.out HNB.out r1⟩
                          · rw [decide_eq_false htr] at lt
                            cases hna : isA dr normalS
                            · have e0 := Kp.mk (bond1_dies (live := live) (traps := traps) (d := ⟨xp, dr⟩) (s := S) (b := ⟨xa, xb, xr⟩) (by rw [hq.out]; exact HAL.out) hr0 (by rw [hq.out]; exact htr) hna)
                              have hIS := is_any V xA xc dr normalS (HRS.out.txt.src rfl) (by have := rightE_len (t := dr) HRT.out; omega)
                              rw [hna] at hIS
                              unfold normalS at hIS
                              have HIS := Kp.mk hIS
                              have hrl := rightE_len (t := dr) HRT.out
                              have HDI := Kp.mk (dies_any V bA am bD ea dv vs xb xA xc dr HS.out.xA HS.out.mA HS.out.xD HS.out.d.own hok (HRS.out.txt.src rfl) hrl.1 hrl.2 (by have h1 := HS.out.d.len; have h2 := HSL.out; omega))
                              clear hna htr hr0 hIS hrl
                              gi_wp2_with (first | (gi_at_call 30; refine ((callsIn_wide.2 HIS.out).inRound _).mono ?_; rintro e w3 ⟨rfl, bb⟩; obtain rfl := bb.symm) | (gi_at_call 24; refine ((callsIn_wide.2 HDI.out).inRound _).mono ?_; rintro e w3 hp; obtain ⟨v, rfl⟩ := hp.1; have HP := Kp.mk hp; clear hp))
                              have hp := HP.out
                              obtain ⟨_, dv9, A9, c9, q1, q2, q3, q4, q5, q6, q7⟩ := hp
                              obtain ⟨r1, r2, r3⟩ := HRS.out.step q7 (fine_dies HS.out.mA (by omega) HS.out.xD HS.out.d.own HRS.out.box HNB.out)
                              obtain ⟨dv8, x8, k1, k2⟩ := HS.out.die HP.out
                              have e8 := e0.out
                              rw [hq.out] at e8
                              refine ⟨r2, r3, HPO.out _ _ _ _ _ _ _ e8 k1 (fun h => ?_) r1⟩
                              rcases k2 with k2 | ⟨g8, k2, k3⟩
                              · exact HNB.out (k2 ▸ h)
                              · rw [k2] at h; cases h
                                have := lt_of_block HRS.out.box
                                omega
                            · have e0 := Kp.mk (bond1_normal (live := live) (traps := traps) (d := ⟨xp, dr⟩) (s := S) (b := ⟨xa, xb, xr⟩) (by rw [hq.out]; exact HAL.out) hr0 (by rw [hq.out]; exact htr) hna)
                              have hIS := is_any V xA xc dr normalS (HRS.out.txt.src rfl) (by have := rightE_len (t := dr) HRT.out; omega)
                              rw [hna] at hIS
                              unfold normalS at hIS
                              have HIS := Kp.mk hIS
                              clear hna htr hr0 hIS
                              gi_wp2_with (gi_at_call 30; refine ((callsIn_wide.2 HIS.out).inRound _).mono ?_; rintro e w3 ⟨rfl, bb⟩; obtain rfl := bb.symm)
                              exact ⟨KeepsFrom.refl _ _, KpI.refl _ _, HPO.out _ _ _ _ _ _ _ e0.out HS.out HNB.out HRS.out⟩
                    · have hb9 : (xa == xp) = false := by simpa using hxa
                      have hq : Kp (otherP xp ⟨xa, xb, xr⟩ = xa) := ⟨by unfold otherP; rw [if_neg hxa]⟩
                      have hok : K2.ok xa := okPid HGD.out.1
                      have la := HLA.out xa hok
                      have lt := HLT.out xa hok
                      clear hxa
                      cases hal : aliveB live S.ds xa
                      · rw [hal] at la
                        have e0 := Kp.mk (bond1_out (live := live) (traps := traps) (d := ⟨xp, dr⟩) (s := S) (b := ⟨xa, xb, xr⟩) (by rw [hq.out]; exact hal))
                        clear hal
                        gi_wp2
                        exact ⟨KeepsFrom.refl _ _, KpI.refl _ _, HPO.out _ _ _ _ _ _ _ e0.out HS.out HNB.out HRS.out⟩
                      · rw [hal] at la
                        have HAL := Kp.mk hal
                        clear hal
                        have HRT := Kp.mk ((OR.out i).s.right _ (List.mem_of_getElem? HDK.out))
                        have HIP := Kp.mk (badP_pid (l := pids (rnds live traps i st).1.ds) (k := i) (x := xp) (by
                          unfold badP
                          rw [List.any_eq_false]
                          intro y hy
                          obtain ⟨d9, hd9, rfl⟩ := List.mem_map.1 hy
                          obtain ⟨j9, hj9⟩ := List.mem_iff_getElem?.1 ((OR.out i).s.live _ hd9)
                          simpa using badP_pid HOK.out.1 hj9) (by unfold pids; rw [List.getElem?_map, HDK.out]; rfl))
                        by_cases hr0 : 0 < xr
                        · have hd9 : decide (xr > 0) = true := by simpa using hr0
                          have e0 := Kp.mk (bond1_down (live := live) (traps := traps) (d := ⟨xp, dr⟩) (s := S) (b := ⟨xa, xb, xr⟩) (by rw [hq.out]; exact HAL.out) hr0)
                          have hEX := down_any V xr xp xA xc dr (HRS.out.txt.src rfl) (by have := rightE_len (t := dr) HRT.out; omega) (HT.out V HS.out.chg)
                          have x0 : downE xr xp dr = 0 := by
                            unfold downE
                            rw [if_pos ⟨⟨by omega, by
                              rcases HGD.out.2.2 with ⟨h, _⟩ | ⟨_, h⟩
                              · simp only at h; omega
                              · exact h⟩, HIP.out⟩]
                            exact HRT.out
                          have x1 : downL xr xp dr = downM xr xp dr := by unfold downL; rw [if_pos x0]
                          rw [x0, x1] at hEX
                          have HEX := Kp.mk hEX
                          clear hr0 hEX x0 x1
                          obtain ⟨M, hM⟩ : ∃ M, M = downM xr xp dr := ⟨_, rfl⟩
                          rw [← hM] at HEX
                          have HM := Kp.mk hM
                          clear hM
                          have ML : us.length ≤ 3000000000000 := by
                            rw [HS.out.t.len]
                            exact HTL.out
                          gi_wp2_with (first | (gi_at_call 28; refine ((callsIn_wide.2 HEX.out).inRound _).mono ?_; rintro e w3 ⟨v3, rfl, o3, t3, bb⟩; obtain ⟨A3, c3, rfl, _⟩ := o3.shape; have O3 := Kp.mk o3; have T3 := Kp.mk t3; have BB := Kp.mk bb; have cS := (HS.out.below bb).xS.cell; have oS := (HS.out.below bb).t.own; clear o3 t3 bb) | (gi_at_builtin; refine app1_evIn TTv (⟨xa, A3, M.length, c3⟩ : Dv) rfl _ _ rfl oS rfl rfl rfl (by simp) rfl (by omega) (by omega) ?_; intro A4 n4 c4 w5 y0 y1 y2 y3; obtain ⟨z1, z2⟩ := HS.out.tell BB.out O3.out T3.out y1 y2 y3; have Z2 := Kp.mk z2; have hc5 := z1.cell; have hf5 := z1.frozen; have Y1 := Kp.mk y1; have Y2 := Kp.mk y2; have Z1 := Kp.mk z1; clear z2 y1 y2))
                          have hRB := HRS.out.below BB.out
                          have hSB := HS.out.below BB.out
                          obtain ⟨r1, r2, r3⟩ := hRB.step ((Y2.out.mono (G := fun g => g = bS ∨ sv.ownBlock = some g) (fun _ _ h => .inr h)).set (p := ⟨bS, 0, none⟩) (.inl (.inl rfl)) _) (fine_tell hSB.xS hSB.t.own hRB.box)
                          have e8 := e0.out
                          rw [hq.out, ← HM.out] at e8
                          exact ⟨(keepsFrom_below BB.out).trans r2, (KpI.of_chg (Chg.of_below BB.out NoF) (fun _ h => h.elim)).trans r3, HPO.out _ _ _ _ _ _ _ e8 Z2.out HNB.out r1⟩
                        · have hd9 : decide (xr > 0) = false := by simpa using hr0
                          by_cases htr : xa ∈ traps
                          · rw [decide_eq_true htr] at lt
                            have e0 := Kp.mk (bond1_exit (live := live) (traps := traps) (d := ⟨xp, dr⟩) (s := S) (b := ⟨xa, xb, xr⟩) (by rw [hq.out]; exact HAL.out) hr0 (by rw [hq.out]; exact htr))
                            have hEX := exit_any V xp xA xc dr (HRS.out.txt.src rfl) (by have := rightE_len (t := dr) HRT.out; omega) (HT.out V HS.out.chg)
                            have x0 : exitE xp dr = 0 := by unfold exitE; rw [if_pos HIP.out]; exact HRT.out
                            have x1 : exitL xp dr = exitM xp dr := by unfold exitL; rw [if_pos x0]
                            rw [x0, x1] at hEX
                            have HEX := Kp.mk hEX
                            clear htr hr0 hEX x0 x1
                            obtain ⟨M, hM⟩ : ∃ M, M = exitM xp dr := ⟨_, rfl⟩
                            rw [← hM] at HEX
                            have HM := Kp.mk hM
                            clear hM
                            have ML : us.length ≤ 3000000000000 := by
                              rw [HS.out.t.len]
                              exact HTL.out
                            gi_wp2_with (first | (gi_at_call 29; refine ((callsIn_wide.2 HEX.out).inRound _).mono ?_; rintro e w3 ⟨v3, rfl, o3, t3, bb⟩; obtain ⟨A3, c3, rfl, _⟩ := o3.shape; have O3 := Kp.mk o3; have T3 := Kp.mk t3; have BB := Kp.mk bb; have cS := (HS.out.below bb).xS.cell; have oS := (HS.out.below bb).t.own; clear o3 t3 bb) | (gi_at_builtin; refine app1_evIn TTv (⟨xa, A3, M.length, c3⟩ : Dv) rfl _ _ rfl oS rfl rfl rfl (by simp) rfl (by omega) (by omega) ?_; intro A4 n4 c4 w5 y0 y1 y2 y3; obtain ⟨z1, z2⟩ := HS.out.tell BB.out O3.out T3.out y1 y2 y3; have Z2 := Kp.mk z2; have hc5 := z1.cell; have hf5 := z1.frozen; have Y1 := Kp.mk y1; have Y2 := Kp.mk y2; have Z1 := Kp.mk z1; clear z2 y1 y2))
                            have hRB := HRS.out.below BB.out
                            have hSB := HS.out.below BB.out
                            obtain ⟨r1, r2, r3⟩ := hRB.step ((Y2.out.mono (G := fun g => g = bS ∨ sv.ownBlock = some g) (fun _ _ h => .inr h)).set (p := ⟨bS, 0, none⟩) (.inl (.inl rfl)) _) (fine_tell hSB.xS hSB.t.own hRB.box)
                            have e8 := e0.out
                            rw [hq.out, ← HM.out] at e8
                            exact ⟨(keepsFrom_below BB.out).trans r2, (KpI.of_chg (Chg.of_below BB.out NoF) (fun _ h => h.elim)).trans r3, HPO.out _ _ _ _ _ _ _ e8 Z2.out HNB.out r1⟩
                          · rw [decide_eq_false htr] at lt
                            cases hna : isA dr normalS
                            · have e0 := Kp.mk (bond1_dies (live := live) (traps := traps) (d := ⟨xp, dr⟩) (s := S) (b := ⟨xa, xb, xr⟩) (by rw [hq.out]; exact HAL.out) hr0 (by rw [hq.out]; exact htr) hna)
                              have hIS := is_any V xA xc dr normalS (HRS.out.txt.src rfl) (by have := rightE_len (t := dr) HRT.out; omega)
                              rw [hna] at hIS
                              unfold normalS at hIS
                              have HIS := Kp.mk hIS
                              have hrl := rightE_len (t := dr) HRT.out
                              have HDI := Kp.mk (dies_any V bA am bD ea dv vs xa xA xc dr HS.out.xA HS.out.mA HS.out.xD HS.out.d.own hok (HRS.out.txt.src rfl) hrl.1 hrl.2 (by have h1 := HS.out.d.len; have h2 := HSL.out; omega))
                              clear hna htr hr0 hIS hrl
                              gi_wp2_with (first | (gi_at_call 30; refine ((callsIn_wide.2 HIS.out).inRound _).mono ?_; rintro e w3 ⟨rfl, bb⟩; obtain rfl := bb.symm) | (gi_at_call 24; refine ((callsIn_wide.2 HDI.out).inRound _).mono ?_; rintro e w3 hp; obtain ⟨v, rfl⟩ := hp.1; have HP := Kp.mk hp; clear hp))
                              have hp := HP.out
                              obtain ⟨_, dv9, A9, c9, q1, q2, q3, q4, q5, q6, q7⟩ := hp
                              obtain ⟨r1, r2, r3⟩ := HRS.out.step q7 (fine_dies HS.out.mA (by omega) HS.out.xD HS.out.d.own HRS.out.box HNB.out)
                              obtain ⟨dv8, x8, k1, k2⟩ := HS.out.die HP.out
                              have e8 := e0.out
                              rw [hq.out] at e8
                              refine ⟨r2, r3, HPO.out _ _ _ _ _ _ _ e8 k1 (fun h => ?_) r1⟩
                              rcases k2 with k2 | ⟨g8, k2, k3⟩
                              · exact HNB.out (k2 ▸ h)
                              · rw [k2] at h; cases h
                                have := lt_of_block HRS.out.box
                                omega
                            · have e0 := Kp.mk (bond1_normal (live := live) (traps := traps) (d := ⟨xp, dr⟩) (s := S) (b := ⟨xa, xb, xr⟩) (by rw [hq.out]; exact HAL.out) hr0 (by rw [hq.out]; exact htr) hna)
                              have hIS := is_any V xA xc dr normalS (HRS.out.txt.src rfl) (by have := rightE_len (t := dr) HRT.out; omega)
                              rw [hna] at hIS
                              unfold normalS at hIS
                              have HIS := Kp.mk hIS
                              clear hna htr hr0 hIS
                              gi_wp2_with (gi_at_call 30; refine ((callsIn_wide.2 HIS.out).inRound _).mono ?_; rintro e w3 ⟨rfl, bb⟩; obtain rfl := bb.symm)
                              exact ⟨KeepsFrom.refl _ _, KpI.refl _ _, HPO.out _ _ _ _ _ _ _ e0.out HS.out HNB.out HRS.out⟩
                  case done =>
                    rintro D' ys V hD rfl ⟨⟨dv2, sv2, vs2, us2, ea2, h2, hn2⟩, hr2⟩ hK
                    have e1 : rnds live traps (i + 1) st = ((told xp (sn (rnds live traps i st).2)).foldl (bond1 live traps ⟨xp, dr⟩) (rnds live traps i st).1, leftN xp (rnds live traps i st).2) := rnd_some HDK.out
                    have e2 : ys.map (·.1) = told xp (sn (rnds live traps i st).2) := by rw [HLV.out, HLL.out]
                    rw [e2] at h2
                    have H2 := Kp.mk h2
                    have HR2 := Kp.mk hr2
                    have E1 := Kp.mk e1
                    have HKD := Kp.mk hK
                    have HLE := Kp.mk hle
                    clear h2 hn2 hr2 hK e1 e2
                    have i2 : (i : Int) + 1 ≤ 18000000000001 := by have := N1.out; omega
                    dsimp only
                    gi_wp2
                    rw [Exit.noGoto_normal]
                    gi_wp2
                    refine ⟨⟨i + 1, mark D' :: dl, ?_, ⟨?_⟩, ⟨HR2.out.clo⟩, ⟨?_⟩, rfl⟩, ?_⟩
                    · rw [E1.out]
                      have h1 := (fold_grow live traps ⟨xp, dr⟩ (told xp (sn (rnds live traps i st).2)) (rnds live traps i st).1).1.length_le
                      have h2 := HN.out
                      show i + 1 ≤ (List.foldl (bond1 live traps ⟨xp, dr⟩) (rnds live traps i st).1 (told xp (sn (rnds live traps i st).2))).ds.length
                      omega
                    · rw [E1.out]
                      exact ⟨_, _, _, _, _, H2.out⟩
                    · refine (M4.out.frame (fun r _ h => HR2.out.mks r h)).cons (by omega) HKD.out (fun r hr => ?_)
                      obtain ⟨r', e, _, h9⟩ := M4.out.at_ _ hr
                      have := lt_of_block h9
                      have := mark_inj e
                      omega
                    · have := HLE.out
                      simp [intOf]
                      omega
                  case stop =>
                    rintro D' c pre W hD hSp hF hK
                    exact hF.elim
                · have i1 : ¬ (i : Int) < (N : Int) := by omega
                  have c2 := HS.out.xS.cell
                  gi_wp2
                  gi_region
                  gi_wp2
                  refine leaves_marks (B := w.heap.size) dl _ (Y3.out.frame (fun r _ h => h)) (fun w9 hs => ?_)
                  have hSd := HS.out.below (Below.refl _ wr).drew
                  have e9 : rnds live traps i st = sprd live traps ds ns := by
                    have h0 := OR.out 0
                    rw [ST.out] at h0 ⊢
                    exact sprd_at h0 (by rw [← ST.out, ← HN.out]; omega)
                  rw [e9] at hSd
                  refine ⟨_, results_tmp3 rfl _ _ _, _, sv, vs, us, rfl, hSd.d.kp hs.kp, hSd.t.kp hs.kp, hSd.ap, ⟨hSd.g.g.frame hs.chg (fun g hg hF => by have := hSd.old g hg; omega), hSd.g.ok⟩, hSd.chg.trans hs.chg (fun g hg hF => by omega)⟩
end Go.Proofs.YtameidoaenoppaaGreatDoor
