/- What an end comes to, child by child (plain), and what has and restart answer; bounds stand in each statement. -/
import Derived.Test.YtiedfckgkjcheaaK
namespace Go.Proofs.Ytiedfckgkjcheaa
open Go.RowKit

theorem beqS_iff (a b : ByteArray) : beqS a b = true ↔ a = b := by
  unfold beqS
  rw [beq_iff_eq, ByteArray.toList_eq, ByteArray.toList_eq]
  constructor
  · intro h
    obtain ⟨⟨x⟩⟩ := a
    obtain ⟨⟨y⟩⟩ := b
    simp at h
    rw [h]
  · rintro rfl; rfl
theorem beqS_self (a : ByteArray) : beqS a a = true := (beqS_iff a a).2 rfl
theorem beqS_ne {a b : ByteArray} : beqS a b = false ↔ a ≠ b := by
  rw [← Bool.not_eq_true, beqS_iff]

def hasL (ns : List ByteArray) (x : ByteArray) : Bool := ns.any fun y => beqS y x
theorem hasL_iff (ns : List ByteArray) (x : ByteArray) : hasL ns x = true ↔ x ∈ ns := by
  unfold hasL
  rw [List.any_eq_true]
  constructor
  · rintro ⟨y, hy, h⟩
    rw [beqS_iff] at h
    exact h ▸ hy
  · intro h
    exact ⟨x, h, beqS_self x⟩
theorem hasL_false (ns : List ByteArray) (x : ByteArray) : hasL ns x = false ↔ x ∉ ns := by
  rw [← Bool.not_eq_true, hasL_iff]

set_option maxHeartbeats 1000000 in
theorem has_any (w : World) (ns : List ByteArray) (x : ByteArray) (A : Option Addr) (c : Nat) (hs : Src w eStr A c ns) (hn : ns.length ≤ 9000000000000000000) :
    Calls Try.prog 17 #[.slice A ns.length c, .string x] w fun e w' => e = .returned (.bool (hasL ns x)) ∧ w = w' := by
  go_enter Try.func17, Try.ntmps17
  go_wp2
  go_loopw [5] (fun i wr => ∃ k : Nat, k ≤ ns.length ∧ i = .int .i64 k ∧ Kp (hasL ns x = hasL (ns.drop k) x) ∧ wr = w) (fun i _ => ns.length - (intOf i).toNat)
  case atStart => exact ⟨0, Nat.zero_le _, rfl, ⟨rfl⟩, rfl⟩
  case round =>
    obtain ⟨k, hk, rfl, hq, rfl⟩ := hrel
    by_cases hlt : k < ns.length
    · cases A with
      | none => have := (hs.none rfl).1; subst this; simp at hlt
      | some ad =>
        have hcell : wr.cell? (ad.add k) = some (.string ns[k]) := by
          have := hs.at k 0 hlt (by decide)
          simpa [eStr] using this
        have hd : Kp (hasL (ns.drop k) x = (beqS ns[k] x || hasL (ns.drop (k + 1)) x)) := ⟨by rw [List.drop_eq_getElem_cons hlt]; rfl⟩
        obtain ⟨y, hy⟩ : ∃ y, y = ns[k] := ⟨_, rfl⟩
        rw [← hy] at hcell hd
        clear hy
        by_cases e : (y.toList == x.toList) = true
        · have e2 : Kp (beqS y x = true) := ⟨e⟩
          go_wp2
          go_ret
          exact ⟨by rw [hq.out, hd.out, e2.out]; rfl, rfl⟩
        · have e2 : Kp (beqS y x = false) := ⟨Bool.eq_false_iff.2 e⟩
          have e4 : (y.toList == x.toList) = false := Bool.eq_false_iff.2 e
          clear e
          go_wp2
          go_roundw
          case rel => exact ⟨k + 1, by omega, by go_num, ⟨by rw [hq.out, hd.out, e2.out]; rfl⟩, trivial⟩
          case measure => simp [intOf]; omega
    · have hle : ns.length ≤ k := by omega
      clear hlt
      go_wp2
      go_ret
      exact ⟨by rw [hq.out, List.drop_eq_nil_of_le hle]; rfl, rfl⟩

def restL : List CS → ByteArray → Int
  | [], _ => 0
  | c :: r, x => if beqS c.name x then c.rs else restL r x
set_option maxHeartbeats 1000000 in
theorem restart_any (w : World) (cs : List CS) (x : ByteArray) (A : Option Addr) (c : Nat) (hs : Src w eCS A c cs) (hn : cs.length ≤ 9000000000000000000) :
    Calls Try.prog 16 #[.slice A cs.length c, .string x] w fun e w' => e = .returned (.int .i64 (restL cs x)) ∧ w = w' := by
  go_enter Try.func16, Try.ntmps16
  go_wp2
  go_loopw [5] (fun i wr => ∃ k : Nat, k ≤ cs.length ∧ i = .int .i64 k ∧ Kp (restL cs x = restL (cs.drop k) x) ∧ wr = w) (fun i _ => cs.length - (intOf i).toNat)
  case atStart => exact ⟨0, Nat.zero_le _, rfl, ⟨rfl⟩, rfl⟩
  case round =>
    obtain ⟨k, hk, rfl, hq, rfl⟩ := hrel
    by_cases hlt : k < cs.length
    · cases A with
      | none => have := (hs.none rfl).1; subst this; simp at hlt
      | some ad =>
        obtain ⟨g, o, rfl⟩ := hs.addr (by omega)
        have H0 : wr.cell? ⟨g, o + k * 2, none⟩ = some (.string cs[k].name) := hs.elem k 0 hlt (by decide)
        have H1 : wr.cell? ⟨g, o + k * 2 + 1, none⟩ = some (.int .i64 cs[k].rs) := hs.elem k 1 hlt (by decide)
        have hd : Kp (restL (cs.drop k) x = if beqS cs[k].name x then cs[k].rs else restL (cs.drop (k + 1)) x) := ⟨by rw [List.drop_eq_getElem_cons hlt]; rfl⟩
        obtain ⟨y, hy⟩ : ∃ y, y = cs[k] := ⟨_, rfl⟩
        rw [← hy] at H0 H1 hd
        clear hy
        by_cases e : (y.name.toList == x.toList) = true
        · have e2 : Kp (beqS y.name x = true) := ⟨e⟩
          go_wp2
          go_ret
          exact ⟨by rw [hq.out, hd.out, e2.out]; rfl, rfl⟩
        · have e2 : Kp (beqS y.name x = false) := ⟨Bool.eq_false_iff.2 e⟩
          have e4 : (y.name.toList == x.toList) = false := Bool.eq_false_iff.2 e
          clear e
          go_wp2
          go_roundw
          case rel => exact ⟨k + 1, by omega, by go_num, ⟨by rw [hq.out, hd.out, e2.out]; rfl⟩, trivial⟩
          case measure => simp [intOf]; omega
    · have hle : cs.length ≤ k := by omega
      clear hlt
      go_wp2
      go_ret
      exact ⟨by rw [hq.out, List.drop_eq_nil_of_le hle]; rfl, rfl⟩

/-! ### an end, child by child -/
def exL (s : SupM) (k : Nat) (c : Ch) : List Ch := s.l.set k (setR false c)
def exS (s : SupM) (k : Nat) (c : Ch) : List Ch := (exL s k c).mapIdx (stopF (withF s.st k) goneF)
def exA (s : SupM) (k : Nat) (c : Ch) : List Bool := ((List.replicate s.l.length false).set k true).mapIdx (agF (exL s k c) (withF s.st k) againF 0)
def calmB (c : Ch) (normal : Bool) : Bool := c.rs == 3 || (c.rs == 2 && normal)
theorem exL_get {s : SupM} {k : Nat} {c : Ch} (hk : s.l[k]? = some c) (i : Nat) (d : Ch) (hd : s.l[i]? = some d) : (exL s k c)[i]? = some (if i = k then setR false c else d) := by
  unfold exL
  rw [List.getElem?_set]
  by_cases e : k = i
  · subst e
    rw [if_pos rfl, if_pos (List.getElem?_eq_some_iff.1 hk).1, if_pos rfl]
  · rw [if_neg e, if_neg (fun h => e h.symm), hd]
theorem withF_self (st : Int) (k : Nat) : withF st k k = false := by
  unfold withF
  split
  · simp
  · split <;> simp
theorem exA_get {s : SupM} {k : Nat} {c : Ch} (hk : s.l[k]? = some c) (i : Nat) (d : Ch) (hd : s.l[i]? = some d) :
    (exA s k c).getD i false = if i = k then true else if d.runs && withF s.st k i then d.rs != 3 else false := by
  have hi := (List.getElem?_eq_some_iff.1 hd).1
  unfold exA
  rw [List.getD_eq_getElem?_getD, List.getElem?_mapIdx, List.getElem?_set]
  by_cases e : k = i
  · subst e
    rw [if_pos rfl, if_pos (by simpa using hi), if_pos rfl]
    simp only [Option.map_some, Option.getD_some, agF, Nat.zero_le, if_true, exL_get hk k c hk]
    rw [withF_self]
    simp
  · rw [if_neg e, if_neg (fun h => e h.symm), List.getElem?_replicate_of_lt hi]
    simp only [Option.map_some, Option.getD_some, agF, Nat.zero_le, if_true, exL_get hk i d hd, if_neg (fun h : i = k => e h.symm)]
    rfl
theorem exS_get {s : SupM} {k : Nat} {c : Ch} (hk : s.l[k]? = some c) (i : Nat) (d : Ch) (hd : s.l[i]? = some d) :
    (exS s k c)[i]? = some (if i = k then setR false c else if d.runs && withF s.st k i then setR false (goneF d) else d) := by
  unfold exS
  rw [List.getElem?_mapIdx, exL_get hk i d hd]
  by_cases e : i = k
  · subst e
    simp [stopF, setR]
  · rw [if_neg e, if_neg e]; rfl
/-- What one child is behind an end. -/
def exitC (s : SupM) (k : Nat) (c : Ch) (normal : Bool) (over : Bool) (i : Nat) (d : Ch) : Ch :=
  if calmB c normal then (if i = k then (if c.rs = 3 then { setR false c with gone := true } else setR false c) else d)
  else if over then setR false d
  else if i = k then setR true c
  else if d.runs && withF s.st k i then (if d.rs = 3 then setR false (goneF d) else setR true (goneF d)) else d
def overB (s : SupM) (tick : Int) : Bool := decide (s.it < countL (s.ends ++ [tick]) tick s.pe)
theorem calm_or {c : Ch} {normal : Bool} : calmB c normal = true ↔ c.rs = 3 ∨ (c.rs = 2 ∧ normal = true) := by simp [calmB]
theorem exit_get {s : SupM} {k : Nat} {c : Ch} (hk : s.l[k]? = some c) (normal : Bool) (tick : Int) (i : Nat) (d : Ch) (hd : s.l[i]? = some d) :
    (exitS s k c normal tick).1.l[i]? = some (exitC s k c normal (overB s tick) i d) := by
  unfold exitS exitC
  by_cases h3 : c.rs = 3
  · rw [if_pos h3, if_pos (calm_or.2 (.inl h3)), if_pos h3]
    show (s.l.set k _)[i]? = _
    rw [List.getElem?_set]
    by_cases e : k = i
    · subst e
      rw [if_pos rfl, if_pos (List.getElem?_eq_some_iff.1 hk).1, if_pos rfl]
    · rw [if_neg e, if_neg (fun h => e h.symm), hd]
  rw [if_neg h3]
  by_cases h2 : c.rs = 2 ∧ normal = true
  · rw [if_pos h2, if_pos (calm_or.2 (.inr h2)), if_neg h3]
    exact exL_get hk i d hd
  rw [if_neg h2, if_neg (fun h => (calm_or.1 h).elim h3 h2)]
  by_cases ho : s.it < countL (s.ends ++ [tick]) tick s.pe
  · rw [if_pos ho, if_pos (by unfold overB; exact decide_eq_true ho)]
    show ((exL s k c).map (setR false))[i]? = _
    rw [List.getElem?_map, exL_get hk i d hd]
    by_cases e : i = k
    · subst e
      rw [hk] at hd
      cases hd
      simp [setR]
    · rw [if_neg e]; rfl
  · rw [if_neg ho, if_neg (by unfold overB; simpa using ho)]
    show (upL (exS s k c) (exA s k c))[i]? = _
    unfold upL
    rw [List.getElem?_mapIdx, exS_get hk i d hd, Option.map_some, exA_get hk i d hd]
    by_cases e : i = k
    · subst e
      simp [setR]
    · rw [if_neg e, if_neg e, if_neg e]
      cases hw : d.runs && withF s.st k i
      · simp
      · by_cases h : d.rs = 3
        · simp [h]
        · have : (d.rs != 3) = true := by simpa using h
          simp [h, setR]
theorem exit_len {s : SupM} {k : Nat} {c : Ch} (normal : Bool) (tick : Int) : (exitS s k c normal tick).1.l.length = s.l.length := by
  unfold exitS
  split
  · simp
  · split
    · simp
    · split <;> simp [upL]
theorem exitC_name (s : SupM) (k : Nat) (c : Ch) (normal over : Bool) (i : Nat) (d : Ch) (h : i = k → d = c) : (exitC s k c normal over i d).name = d.name ∧ (exitC s k c normal over i d).rs = d.rs := by
  unfold exitC
  by_cases e : i = k
  · have := h e
    subst this
    repeat' split
    all_goals exact ⟨rfl, rfl⟩
  · repeat' split
    all_goals first | exact ⟨rfl, rfl⟩ | exact absurd ‹i = k› e

end Go.Proofs.Ytiedfckgkjcheaa
