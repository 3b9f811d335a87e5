/- What Swap of parleyref21 does: other words at the places that are set; for at most 1000 frames and 900000 slots. -/
import Derived.Test.YthdfmopbihpcoaaRq
namespace Go.Proofs.Ythdfmopbihpcoaa
open Go.RowKit
variable {B : Bd}

theorem loc (rr : List RR) (fs : List Fr) (hl : rr.length = fs.length) (hn : ∀ (k : Nat) (r : RR) (f : Fr), rr[k]? = some r → fs[k]? = some f → r.n = f.cl.length) (i b o : Nat) (hp : (rY rr)[i]? = some (b, o)) :
    ∃ k r f j, rr[k]? = some r ∧ fs[k]? = some f ∧ j < f.cl.length ∧ b = r.b ∧ o = j * 2 ∧ (allY fs)[i]? = f.cl[j]? ∧ ∀ c, putFs fs i c = fs.set k ⟨f.rt, f.y.map (·.set j c)⟩ := by
  induction rr generalizing fs i with
  | nil => simp [rY] at hp
  | cons r rr ih =>
    cases fs with
    | nil => simp at hl
    | cons f fs =>
      have h0 := hn 0 r f rfl rfl
      rw [rY_cons] at hp
      rw [allY_cons]
      by_cases hi : i < f.cl.length
      · rw [List.getElem?_append_left (by rw [row2_len, h0]; exact hi), row2_get _ _ _ (by omega)] at hp
        cases hp
        exact ⟨0, r, f, i, rfl, rfl, hi, rfl, rfl, by rw [List.getElem?_append_left hi], fun c => by simp only [putFs]; rw [if_pos hi]; rfl⟩
      · rw [List.getElem?_append_right (by rw [row2_len, h0]; omega), row2_len, h0] at hp
        obtain ⟨k, r', f', j, h1, h2, h3, h4, h5, h6, h7⟩ := ih fs (by simpa using hl) (fun k r f hr hf => hn (k + 1) r f hr hf) (i - f.cl.length) hp
        exact ⟨k + 1, r', f', j, h1, h2, h3, h4, h5, by rw [List.getElem?_append_right (by omega)]; exact h6, fun c => by simp only [putFs]; rw [if_neg hi, h7]; rfl⟩
theorem IsRf.put {w : World} {q : Nat} {fv : Value} {s : StM} {rr : List RR} (h : IsRf B w q fv s rr) (i b o : Nat) (u : Int) (c : Cl) (hp : (rplaces q rr)[i]? = some (b, o)) (hc : (cellsOf s)[i]? = some c) (hon : c.on = true) :
    IsRf B (w.setCell ⟨b, o + 1, none⟩ (.int .u64 u)) q fv (s.put i ⟨u, true⟩) rr ∧ Ty B TR w b := by
  unfold rplaces at hp
  unfold cellsOf at hc
  unfold StM.put
  by_cases hi : i < 16
  · rw [List.getElem?_append_left (by rw [row2_len]; exact hi), row2_get _ _ _ hi] at hp
    rw [List.getElem?_append_left (by rw [h.x16]; exact hi)] at hc
    cases hp
    rw [if_pos hi]
    obtain ⟨hix, hci⟩ := List.getElem?_eq_some_iff.1 hc
    have hl : (eRC.flat s.x).length = 32 := by rw [eRC.flat_length, h.x16]; rfl
    have e1 : (eRC.flat s.x).set (i * 2 + 1) (.int .u64 u) = eRC.flat (s.x.set i ⟨u, true⟩) := eRC.flat_set s.x i 1 ⟨u, true⟩ (.int .u64 u) hix (by decide) (by rw [hci]; simp [eRC, hon])
    refine ⟨h.putX (by simpa using h.x16) ?_ ((Chg.refl (fun g => g = q) w).set (p := ⟨q, i * 2 + 1, none⟩) (.inl rfl) _), h.isTy⟩
    rw [blk_set h.blk (i * 2 + 1) (.int .u64 u)]
    unfold StR
    congr 2
    rw [List.setIfInBounds_toArray, List.set_append_left _ _ (by omega), e1]
  · rw [List.getElem?_append_right (by rw [row2_len]; omega), row2_len] at hp
    rw [List.getElem?_append_right (by rw [h.x16]; omega), h.x16] at hc
    rw [if_neg hi]
    obtain ⟨k, r, f, j, h1, h2, h3, rfl, rfl, h6, h7⟩ := loc rr s.fs h.len (fun k r f hr hf => (h.rn k r f hr hf).1) (i - 16) b o hp
    rw [h7]
    rw [h6] at hc
    obtain ⟨hn, hA⟩ := h.rn k r f h1 h2
    obtain ⟨e1, e2, ho⟩ := h.each k r f h1 h2
    have hA' := hA (by omega)
    have hv : r.v = .slice (some ⟨r.b, 0, none⟩) r.n r.c := by unfold RR.v; rw [hA']
    have hrb : r.v.ownBlock = some r.b := by rw [hv]; rfl
    rw [hv] at ho
    obtain ⟨_, hcj⟩ := List.getElem?_eq_some_iff.1 hc
    have hcg := ho.blk.choose_spec
    have hset := ho.set hn j 1 ⟨u, true⟩ (.int .u64 u) h3 (by decide) (by rw [hcj]; simp [eRC, hon])
    have hcc : Chg (fun x => x = r.b) w (w.setCell ⟨r.b, j * 2 + 1, none⟩ (.int .u64 u)) := (Chg.refl (fun x => x = r.b) w).set (p := ⟨r.b, j * 2 + 1, none⟩) (.inl rfl) _
    have npg : q ≠ r.b := fun e => ho.ne h.blk (by decide) (by rw [e]; rfl)
    have hk := (List.getElem?_eq_some_iff.1 h2).1
    refine ⟨⟨hcc.at h.blk npg, h.x16, h.f.frame hcc (fun g hg e => h.f.ne hcg (by decide) (by rw [← e]; exact hg)), by simpa using h.len, fun k' r' f' hr hf => ?_, ⟨h.hq.1, by have h9 := h.hq.2; simp [World.setCell]; omega⟩, h.hf, h.hr, h.sep⟩, h.hr k r r.b h1 hrb, _, 66, hcg, by decide⟩
    by_cases e : k = k'
    · subst e
      rw [h1] at hr
      cases hr
      rw [List.getElem?_set, if_pos rfl, if_pos hk] at hf
      cases hf
      refine ⟨e1, ?_, ?_⟩
      · rw [e2]; cases f.y <;> rfl
      · rw [hv]
        have : (⟨f.rt, f.y.map (·.set j ⟨u, true⟩)⟩ : Fr).cl = f.cl.set j ⟨u, true⟩ := by
          unfold Fr.cl
          cases hy : f.y with
          | none => unfold Fr.cl at h3; rw [hy] at h3; simp at h3
          | some l => rfl
        rw [this]
        exact hset
    · rw [List.getElem?_set, if_neg e] at hf
      obtain ⟨a1, a2, a3⟩ := h.each k' r' f' hr hf
      exact ⟨a1, a2, a3.frame hcc fun g hg e' => e (h.sep k k' r r' r.b h1 hr hrb (by rw [← e']; exact hg))⟩
end Go.Proofs.Ythdfmopbihpcoaa
