/- Hits, plain: each stands in its text, they rise; how many a byte has. -/
import Derived.Test.YtjpcfpffbicpnaaSegF
set_option linter.unusedVariables false
set_option linter.unusedSimpArgs false
namespace Lec.Sg
theorem textH_mem {d : Doc} {p : ByteArray} {k : Nat} {h : Hit} (hm : h ∈ textH d p k) : h.1 = d.id ∧ h.2 < k ∧ hereT d.text p h.2 = true := by
  unfold textH at hm
  obtain ⟨j, hj, rfl⟩ := List.mem_map.1 hm
  obtain ⟨h1, h2⟩ := List.mem_filter.1 hj
  exact ⟨rfl, List.mem_range.1 h1, h2⟩
theorem hit_in {D : List Doc} {p : ByteArray} {h : Hit} (hm : h ∈ hitsD D p) : ∃ i, ∃ hi : i < D.length, h.1 = D[i].id ∧ h.2 + p.size ≤ D[i].text.size ∧ hereT D[i].text p h.2 = true := by
  unfold hitsD at hm
  obtain ⟨d, hd, hm⟩ := List.mem_flatMap.1 hm
  obtain ⟨h1, h2, h3⟩ := textH_mem hm
  obtain ⟨i, hi, rfl⟩ := List.getElem_of_mem hd
  exact ⟨i, hi, h1, by omega, h3⟩
def hitLt (a b : Hit) : Prop := Go.Op.bytesLess a.1.toList b.1.toList = true ∨ (a.1 = b.1 ∧ a.2 < b.2)
theorem textH_rise (d : Doc) (p : ByteArray) (k : Nat) : (textH d p k).Pairwise hitLt := by
  unfold textH
  rw [List.pairwise_map]
  refine ((List.pairwise_lt_range).filter _).imp (fun h => .inr ⟨rfl, h⟩)
theorem hits_rise (p : ByteArray) : ∀ {D : List Doc}, Rises (D.map Doc.id) → (hitsD D p).Pairwise hitLt
  | [], _ => List.Pairwise.nil
  | d :: ds, h => by
    show (textH d p (d.text.size + 1 - p.size) ++ hitsD ds p).Pairwise hitLt
    rw [List.pairwise_append]
    refine ⟨textH_rise _ _ _, hits_rise p (fun i j hij hj => ?_), fun a ha b hb => ?_⟩
    · have := h (i + 1) (j + 1) (by omega) (by simpa using hj)
      simpa using this
    · obtain ⟨ha1, _, _⟩ := textH_mem ha
      obtain ⟨i, hi, hb1, _, _⟩ := hit_in hb
      refine .inl ?_
      rw [ha1, hb1]
      have := h 0 (i + 1) (by omega) (by simpa using hi)
      simpa using this
theorem here_one (t : ByteArray) (c : UInt8) (k : Nat) : hereT t ⟨#[c]⟩ k = decide (t.toList[k]? = some c) := by
  unfold hereT
  rw [decide_eq_decide, show (ByteArray.mk #[c]).toList = [c] from by rw [Go.ByteArray.toList_eq], show (ByteArray.mk #[c]).size = 1 from rfl]
  constructor
  · intro h
    have := congrArg (fun l => l[0]?) h
    simpa using this
  · intro h
    obtain ⟨hl, e⟩ := List.getElem?_eq_some_iff.1 h
    rw [List.drop_eq_getElem_cons hl, e]
    rfl
end Lec.Sg
