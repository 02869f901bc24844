/- Merged again a log is the same: plain. -/
import Derived.Test.YtpdnkhdnenibgaaEntO
set_option linter.unusedVariables false
set_option linter.unusedSimpArgs false
namespace Lec
open Go Go.RowKit
theorem atE_some {b t i x : Int} {L : List Ent} (h : atE b t L i = some x) (hi : b < i) : ∃ (j : Nat) (hj : j < L.length), i = b + 1 + j ∧ L[j].2.1 = x := by
  have hr := atE_range h
  refine ⟨(i - b - 1).toNat, by omega, by omega, ?_⟩
  have hk : (i - b - 1).toNat < L.length := by omega
  have := atE_in (b := b) (t := t) hk
  rw [show b + 1 + ((i - b - 1).toNat : Int) = i by omega, h] at this
  exact (Option.some.inj this).symm
theorem skip_spec (b t : Int) (L : List Ent) : ∀ (E : List Ent) (p : Int), (∀ (k : Nat) (h : k < E.length), E[k].1 = p + 1 + k) → ∃ E0, E = E0 ++ (skipE b t L p E).2 ∧ (∀ e ∈ E0, atE b t L e.1 = some e.2.1) ∧ (skipE b t L p E).1 = p + E0.length
  | [], p, _ => ⟨[], rfl, by simp, by simp [skipE]⟩
  | e :: E, p, h => by
    unfold skipE
    by_cases hc : atE b t L e.1 = some e.2.1
    · rw [if_pos hc]
      have he : e.1 = p + 1 := by have := h 0 (by simp); simpa using this
      obtain ⟨E0, h1, h2, h3⟩ := skip_spec b t L E e.1 (fun k hk => by
        have := h (k + 1) (by simpa using hk)
        have h' : E[k].1 = p + 1 + ((k + 1 : Nat) : Int) := by simpa using this
        rw [h', he]; omega)
      refine ⟨e :: E0, by rw [List.cons_append, ← h1], ?_, ?_⟩
      · intro x hx
        rcases List.mem_cons.1 hx with rfl | hx
        · exact hc
        · exact h2 x hx
      · rw [h3, he, List.length_cons]; omega
    · rw [if_neg hc]
      exact ⟨[], rfl, by simp, by simp⟩
theorem skip_all (b t : Int) (L : List Ent) : ∀ (E : List Ent) (p : Int), (∀ e ∈ E, atE b t L e.1 = some e.2.1) → (skipE b t L p E).2 = []
  | [], p, _ => rfl
  | e :: E, p, h => by
    unfold skipE
    rw [if_pos (h e (by simp))]
    exact skip_all b t L E e.1 (fun x hx => h x (by simp [hx]))
theorem join_nil (b t : Int) (L : List Ent) (p : Int) : joinE b t L p [] = (b, t, L, false, 0) := rfl
theorem from_runs {b t prev s : Int} {es : List Ent} (h : runsE prev s es) : (∀ (k : Nat) (hk : k < (fromE b t prev s es).2.2.length), (fromE b t prev s es).2.2[k].1 = (fromE b t prev s es).1 + 1 + k) ∧ (∀ e ∈ es, e.1 ≤ b ∨ e ∈ (fromE b t prev s es).2.2) := by
  have hat := runsE_at prev s es h
  unfold fromE
  split
  · next hlt =>
    dsimp only
    refine ⟨fun k hk => ?_, fun e he => ?_⟩
    · rw [List.length_drop] at hk
      rw [List.getElem_drop, (hat _ _).1]; omega
    · obtain ⟨k, hk, rfl⟩ := List.mem_iff_getElem.1 he
      by_cases hkb : k < (b - prev).toNat
      · left; rw [(hat k hk).1]; omega
      · right
        refine List.mem_iff_getElem.2 ⟨k - (b - prev).toNat, by rw [List.length_drop]; omega, ?_⟩
        rw [List.getElem_drop]
        congr 1
        omega
  · exact ⟨fun k hk => (hat k hk).1, fun e he => .inr he⟩
theorem atE_take {b t i : Int} {L E : List Ent} {k : Nat} (hk : k ≤ L.length) (hi : i ≤ b + k) : atE b t (L.take k ++ E) i = atE b t L i := by
  by_cases h0 : i < b
  · rw [atE_out (.inl h0), atE_out (.inl h0)]
  · by_cases h1 : i = b
    · rw [h1, atE_base, atE_base]
    · obtain ⟨j, rfl⟩ : ∃ j : Nat, i = b + 1 + j := ⟨(i - b - 1).toNat, by omega⟩
      have hj : j < k := by omega
      rw [atE_in (by rw [List.length_append, List.length_take]; omega), atE_in (by omega), List.getElem_append_left (by rw [List.length_take]; omega), List.getElem_take]
/-- What a merge that goes well leaves. -/
theorem merge_again {b t : Int} {L : List Ent} {prev s : Int} {es : List Ent} {b' t' : Int} {M : List Ent} (h : mergeE b t L prev s es = (b', t', M, false, 0)) :
    b' = b ∧ t' = t ∧ mayL b t L ∧ mayL b t M ∧ mergeE b t M prev s es = (b, t, M, false, 0) ∧ (∀ e ∈ es, b < e.1 → ∃ (j : Nat) (hj : j < M.length), e.1 = b + 1 + j ∧ M[j].2.1 = e.2.1 ∧ M[j].1 = e.1) := by
  unfold mergeE at h
  by_cases hm : mayM b t L prev s es
  · rw [if_pos hm] at h
    obtain ⟨hL, hp0, hp1, hs, hrun⟩ := hm
    obtain ⟨hidx, hdr⟩ := from_runs (b := b) (t := t) hrun
    have hfr : ∀ M, mergeE b t M prev s es = if mayM b t M prev s es then if atE b t M (fromE b t prev s es).1 = some (fromE b t prev s es).2.1 then joinE b t M (skipE b t M (fromE b t prev s es).1 (fromE b t prev s es).2.2).1 (skipE b t M (fromE b t prev s es).1 (fromE b t prev s es).2.2).2 else (b, t, M, true, 0) else (0, 0, [], false, 1) := fun M => rfl
    generalize fromE b t prev s es = q at *
    obtain ⟨p0, s0, E⟩ := q
    dsimp only at h hidx hdr hfr
    by_cases ha : atE b t L p0 = some s0
    · rw [if_pos ha] at h
      obtain ⟨E0, e1, e2, e3⟩ := skip_spec b t L E p0 hidx
      generalize hq : skipE b t L p0 E = q at *
      obtain ⟨p1, E1⟩ := q
      dsimp only at h e1 e3
      have hrng : b ≤ p1 ∧ p1 ≤ b + L.length := by
        have h0 := atE_range ha
        cases hE0 : E0.getLast? with
        | none =>
          have : E0 = [] := by simpa using hE0
          rw [e3, this]; simpa using h0
        | some x =>
          have hx := List.mem_of_getLast? hE0
          have h1 := atE_range (e2 x hx)
          have hne : E0 ≠ [] := fun e => by rw [e] at hE0; simp at hE0
          have hx2 : x.1 = p0 + E0.length := by
            have hl : 0 < E0.length := List.length_pos_iff.2 hne
            have hk : E0.length - 1 < E.length := by rw [e1, List.length_append]; omega
            have h2 := hidx _ hk
            have h3 : E[E0.length - 1] = x := by
              have : E[E0.length - 1]? = some x := by rw [e1, List.getElem?_append_left (by omega), ← hE0, List.getLast?_eq_getElem?]
              rw [List.getElem?_eq_getElem hk] at this
              exact Option.some.inj this
            rw [h3] at h2
            omega
          omega
      -- what is left is in M, and M's beginning is L's
      have main : ∀ (N : List Ent), mayL b t N → (∀ i, i ≤ p1 → atE b t N i = atE b t L i) → (∀ e ∈ E1, atE b t N e.1 = some e.2.1) → mergeE b t N prev s es = (b, t, N, false, 0) ∧ ∀ e ∈ E, atE b t N e.1 = some e.2.1 := by
        intro N hN h1 h2
        have hall : ∀ e ∈ E, atE b t N e.1 = some e.2.1 := fun e he => by
          rw [e1, List.mem_append] at he
          rcases he with he | he
          · have h3 := e2 e he
            obtain ⟨k, hk, rfl⟩ := List.mem_iff_getElem.1 he
            have hk' : k < E.length := by rw [e1, List.length_append]; omega
            have h4 := hidx k hk'
            have h5 : E[k] = E0[k] := by
              have : E[k]? = some E0[k] := by rw [e1, List.getElem?_append_left hk, List.getElem?_eq_getElem hk]
              rw [List.getElem?_eq_getElem hk'] at this
              exact Option.some.inj this
            rw [h5] at h4
            rw [h1 _ (by rw [h4, e3]; omega)]; exact h3
          · exact h2 e he
        refine ⟨?_, hall⟩
        rw [hfr N, if_pos ⟨hN, hp0, hp1, hs, hrun⟩, h1 p0 (by omega), if_pos ha, skip_all b t N E p0 hall, join_nil]
      have fin : ∀ (N : List Ent), mayL b t N → (∀ e ∈ E, atE b t N e.1 = some e.2.1) → ∀ e ∈ es, b < e.1 → ∃ (j : Nat) (hj : j < N.length), e.1 = b + 1 + j ∧ N[j].2.1 = e.2.1 ∧ N[j].1 = e.1 := by
        intro N hN hall e he hb
        rcases hdr e he with h1 | h1
        · omega
        · obtain ⟨j, hj, h2, h3⟩ := atE_some (hall e h1) hb
          exact ⟨j, hj, h2, h3, by rw [(runsE_at b t N hN.2.2.2.2.2 j hj).1, h2]⟩
      unfold joinE at h
      by_cases hz : E1.length = 0
      · rw [if_pos hz] at h
        injection h with h1 h; injection h with h2 h; injection h with h3 h
        subst h1; subst h2; subst h3
        have hE1 : E1 = [] := List.eq_nil_of_length_eq_zero hz
        have := main L hL (fun _ _ => rfl) (fun e he => by rw [hE1] at he; simp at he)
        exact ⟨rfl, rfl, hL, hL, this.1, fin L hL this.2⟩
      · rw [if_neg hz] at h
        split at h
        · injection h with _ h; injection h with _ h; injection h with _ h; injection h with _ h; cases h
        · split at h
          · next hM =>
            injection h with h1 h; injection h with h2 h; injection h with h3 h
            subst h1; subst h2; subst h3
            have hk : (p1 - b).toNat ≤ L.length := by omega
            have htl : (L.take (p1 - b).toNat).length = (p1 - b).toNat := by rw [List.length_take]; omega
            have := main _ hM (fun i hi => atE_take hk (by omega)) (fun e he => by
              obtain ⟨k, hk2, rfl⟩ := List.mem_iff_getElem.1 he
              have hk' : E0.length + k < E.length := by rw [e1, List.length_append]; omega
              have h4 := hidx _ hk'
              have h5 : E[E0.length + k] = E1[k] := by
                have : E[E0.length + k]? = some E1[k] := by rw [e1, List.getElem?_append_right (by omega), Nat.add_sub_cancel_left, List.getElem?_eq_getElem hk2]
                rw [List.getElem?_eq_getElem hk'] at this
                exact Option.some.inj this
              rw [h5] at h4
              have h6 : E1[k].1 = b + 1 + (((p1 - b).toNat + k : Nat) : Int) := by rw [h4]; omega
              rw [h6, atE_in (by rw [List.length_append, htl]; omega)]
              congr 2
              rw [List.getElem_append_right (by rw [htl]; omega)]
              have h7 : (p1 - b).toNat + k - (L.take (p1 - b).toNat).length = k := by rw [htl]; omega
              simp only [h7])
            exact ⟨rfl, rfl, hL, hM, this.1, fin _ hM this.2⟩
          · injection h with _ h; injection h with _ h; injection h with _ h; injection h with _ h; cases h
    · rw [if_neg ha] at h
      injection h with _ h; injection h with _ h; injection h with _ h; injection h with h _; cases h
  · rw [if_neg hm] at h
    injection h with _ h; injection h with _ h; injection h with _ h; injection h with _ h; cases h
theorem merge_may {b t : Int} {L : List Ent} {prev s : Int} {es : List Ent} {b' t' : Int} {M : List Ent} {x : Bool} (h : mergeE b t L prev s es = (b', t', M, x, 0)) : mayM b t L prev s es := by
  unfold mergeE at h
  by_cases hm : mayM b t L prev s es
  · exact hm
  · rw [if_neg hm] at h
    injection h with _ h; injection h with _ h; injection h with _ h; injection h with _ h; cases h
theorem merge_own {b t : Int} {L : List Ent} (h : mayL b t L) : mergeE b t L b t L = (b, t, L, false, 0) := by
  unfold mergeE
  rw [if_pos ⟨h, h.1, by have := h.2.1; omega, ⟨h.2.2.1, h.2.2.2.1⟩, h.2.2.2.2.2⟩]
  have hf : fromE b t b t L = (b, t, L) := by unfold fromE; rw [if_neg (by omega)]
  rw [hf, if_pos (atE_base _ _ _), skip_all b t L L b (fun e he => ?_), join_nil]
  obtain ⟨k, hk, rfl⟩ := List.mem_iff_getElem.1 he
  rw [(runsE_at b t L h.2.2.2.2.2 k hk).1]
  exact atE_in hk
end Lec
