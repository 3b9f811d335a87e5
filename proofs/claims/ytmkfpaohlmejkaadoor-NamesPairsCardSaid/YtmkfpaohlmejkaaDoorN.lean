/- Names of package names in memory; New, Len, Find, Name walked; bounds stand in the statements. -/
import Derived.Test.YtmkfpaohlmejkaaDoorM
import Derived.Test.YtmkfpaohlmejkaaDoorDraw
namespace Go.Proofs.YtmkfpaohlmejkaaDoor
open Go.RowKit

/-- Keys that are strings. -/
noncomputable def keyStr {P : Program} {k : TypeId} (hk : P.underlying k = some .string) : KeyT P k ByteArray :=
  ⟨Value.string, fun s => Lit.string s.data.toList, fun s => s.size ≤ maxLen, Go.Maps.string_keyed hk, fun _ hx => Go.WideMaps.keyOf_string_mk hk hx, fun v l h => by
    obtain ⟨s, h1, h2, h3⟩ := Go.WideMaps.string_of_keyOf hk h
    exact ⟨s, h3, h1, h2⟩, fun _ _ _ _ h => WideShapes.bytes_inj (by injection h)⟩
noncomputable def KS : KeyT Tryd.prog 9 ByteArray := keyStr Tryd.underlying9
noncomputable def KI : KeyT Tryd.prog 2 Int := keyInt Tryd.underlying2
theorem okI (x : Int) (h1 : -9223372036854775808 ≤ x) (h2 : x ≤ 9223372036854775807) : KI.ok x := by
  show (Lit.int .i64 x).wf = true
  simp [Lit.wf, IntKind.min, IntKind.max, IntKind.signed, IntKind.bits]
  omega
structure G2 (w : World) (p a b : Nat) (ea : List (ByteArray × Value)) (eb : List (Int × Value)) : Prop where
  blk : w.heap[p]? = some (.cells #[.map (some a), .map (some b)] 54 (0, 0))
  ma : IsMapV KS w a ea
  mb : IsMapV KI w b eb
  ne : a ≠ b
def FG (p a b : Nat) : Nat → Prop := fun g => g = p ∨ g = a ∨ g = b
section
variable {w w' : World} {p a b : Nat} {ea : List (ByteArray × Value)} {eb : List (Int × Value)}
theorem IsMapV.al {κ : Type} [DecidableEq κ] {P : Program} {k : TypeId} {T : KeyT P k κ} {b : Nat} {es : List (κ × Value)} (h : IsMapV T w b es) (o : Obj) : IsMapV T (w.alloc o) b es := h.below ((Below.refl _ _).alloc (Nat.le_refl _) _)
theorem map_ne {κ : Type} [DecidableEq κ] {P : Program} {k : TypeId} {T : KeyT P k κ} {b : Nat} {es : List (κ × Value)} {c : Array Value} {t : TypeId} (h : IsMapV T w b es) (hp : w.heap[p]? = some (.cells c t (0, 0))) : p ≠ b := by
  rintro rfl
  obtain ⟨a, c', hb⟩ := h.blk
  rw [hp] at hb
  cases hb
theorem G2.pne (h : G2 w p a b ea eb) : p ≠ a ∧ p ≠ b := ⟨map_ne h.ma h.blk, map_ne h.mb h.blk⟩
theorem G2.frame (h : G2 w p a b ea eb) {F : Nat → Prop} (hc : Chg F w w') (hn : ∀ g, FG p a b g → ¬ F g) : G2 w' p a b ea eb :=
  ⟨hc.at h.blk (hn _ (.inl rfl)), h.ma.frame hc (hn _ (.inr (.inl rfl))), h.mb.frame hc (hn _ (.inr (.inr rfl))), h.ne⟩
theorem G2.below (h : G2 w p a b ea eb) (hb : Below w.heap.size w w') : G2 w' p a b ea eb := h.frame (Chg.of_below hb NoF) fun _ _ h => h
theorem G2.lt (h : G2 w p a b ea eb) (g : Nat) (hg : FG p a b g) : g < w.heap.size := by
  rcases hg with rfl | rfl | rfl
  · exact lt_of_block h.blk
  · exact h.ma.lt
  · exact h.mb.lt
theorem G2.c0 (h : G2 w p a b ea eb) : w.cell? ⟨p, 0, none⟩ = some (.map (some a)) := blk_c h.blk 0
theorem G2.c1 (h : G2 w p a b ea eb) : w.cell? ⟨p, 1, none⟩ = some (.map (some b)) := blk_c h.blk 1
end
/-- Names. -/
structure IsN (w : World) (p a b : Nat) (l : List En) : Prop where
  g : G2 w p a b (whoE l) (nameE l)
  ok : GOk l
theorem IsN.below {w w' : World} {p a b : Nat} {l : List En} (h : IsN w p a b l) (hb : Below w.heap.size w w') : IsN w' p a b l := ⟨h.g.below hb, h.ok⟩
theorem IsN.frame {w w' : World} {p a b : Nat} {l : List En} (h : IsN w p a b l) {F : Nat → Prop} (hc : Chg F w w') (hn : ∀ g, FG p a b g → ¬ F g) : IsN w' p a b l := ⟨h.g.frame hc hn, h.ok⟩

set_option maxHeartbeats 1000000 in
theorem new_any (w : World) : Calls Tryd.prog 7 #[] w fun e w' => ∃ p a b, e = .returned (.pointer (some ⟨p, 0, none⟩)) ∧ IsN w' p a b [] ∧ (∀ g, FG p a b g → w.heap.size ≤ g) ∧ Below w.heap.size w w' := by
  have hmm := @run_makeMap Tryd.prog
  go_enter Tryd.func7, Tryd.ntmps7
  go_wp2
  go_ret
  have b1 : Below w.heap.size w (w.alloc (.map #[] 0)) := (Below.refl _ w).alloc (Nat.le_refl _) _
  refine ⟨w.heap.size + 1 + 1, w.heap.size, w.heap.size + 1, rfl, ⟨⟨?_, ?_, ?_, by omega⟩, GOk.nil⟩, ?_, ?_⟩
  · have h := blk_new ((w.alloc (.map #[] 0)).alloc (.map #[] 0)) (.cells #[.map (some w.heap.size), .map (some (w.heap.size + 1))] 54)
    rw [World.size_alloc, World.size_alloc] at h
    exact h
  · exact ((isMap_made KS w).al _).al _
  · have h := isMap_made KI (w.alloc (.map #[] 0))
    rw [World.size_alloc] at h
    exact h.al _
  · rintro g (rfl | rfl | rfl) <;> omega
  · exact (b1.alloc (by simp) _).alloc (by simp; omega) _

set_option maxHeartbeats 1000000 in
theorem len_any (w : World) (p a b : Nat) (l : List En) (h : IsN w p a b l) : Calls Tryd.prog 9 #[.pointer (some ⟨p, 0, none⟩)] w fun e w' => e = .returned (.int .i64 l.length) ∧ w' = w := by
  have q0 := h.g.c0
  have hl := fun ty => h.g.ma.len Tryd.underlying51 ty
  rw [show (whoE l).length = l.length by simp [whoE]] at hl
  clear h
  go_enter Tryd.func9, Tryd.ntmps9
  go_wp2
  go_ret
  exact ⟨rfl, rfl⟩
/-- Who has a name. -/
def findR (l : List En) (s : ByteArray) : Value := .tuple #[.int .i64 ((atN l s).map En.p |>.getD 0), .bool (atN l s).isSome]
def nameR (l : List En) (p : Int) : Value := .tuple #[.string ((atP l p).map En.n |>.getD { data := #[] }), .bool (atP l p).isSome]
set_option maxHeartbeats 1000000 in
theorem find_any (w : World) (p a b : Nat) (l : List En) (h : IsN w p a b l) (s : ByteArray) (hs : s.size ≤ maxLen) : Calls Tryd.prog 16 #[.pointer (some ⟨p, 0, none⟩), .string s] w fun e w' => e = .returned (findR l s) ∧ w' = w := by
  have q0 := h.g.c0
  have hg := h.g.ma.get_ok Tryd.underlying51 (z := .int .i64 0) (by kernel_rfl) s hs
  rw [look_who] at hg
  unfold findR
  clear h
  cases hx : atN l s with
  | none =>
    rw [hx] at hg
    have hg1 : (Instr.lookup 51 (.map (some a)) (.string s) true).run Tryd.prog w = .ok (.tuple #[.int .i64 0, .bool false]) w := hg
    clear hg
    go_enter Tryd.func16, Tryd.ntmps16
    go_wp2
    go_ret2
    exact ⟨rfl, rfl⟩
  | some x =>
    rw [hx] at hg
    have hg1 : (Instr.lookup 51 (.map (some a)) (.string s) true).run Tryd.prog w = .ok (.tuple #[.int .i64 x.p, .bool true]) w := hg
    clear hg
    go_enter Tryd.func16, Tryd.ntmps16
    go_wp2
    go_ret2
    exact ⟨rfl, rfl⟩
set_option maxHeartbeats 1000000 in
theorem name_any (w : World) (p a b : Nat) (l : List En) (h : IsN w p a b l) (q : Int) (hq : KI.ok q) : Calls Tryd.prog 17 #[.pointer (some ⟨p, 0, none⟩), .int .i64 q] w fun e w' => e = .returned (nameR l q) ∧ w' = w := by
  have q0 := h.g.c1
  have hg := h.g.mb.get_ok Tryd.underlying52 (z := .string { data := #[] }) (by kernel_rfl) q hq
  rw [look_name] at hg
  unfold nameR
  clear h
  cases hx : atP l q with
  | none =>
    rw [hx] at hg
    have hg1 : (Instr.lookup 52 (.map (some b)) (.int .i64 q) true).run Tryd.prog w = .ok (.tuple #[.string { data := #[] }, .bool false]) w := hg
    clear hg
    go_enter Tryd.func17, Tryd.ntmps17
    go_wp2
    go_ret2
    exact ⟨rfl, rfl⟩
  | some x =>
    rw [hx] at hg
    have hg1 : (Instr.lookup 52 (.map (some b)) (.int .i64 q) true).run Tryd.prog w = .ok (.tuple #[.string x.n, .bool true]) w := hg
    clear hg
    go_enter Tryd.func17, Tryd.ntmps17
    go_wp2
    go_ret2
    exact ⟨rfl, rfl⟩
end Go.Proofs.YtmkfpaohlmejkaaDoor
