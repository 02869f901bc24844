/- Hits, plain: what a search answers, from the symbols and from the texts. -/
import Derived.Test.YtjpcfpffbicpnaaSegH
set_option linter.unusedVariables false
set_option linter.unusedSimpArgs false
namespace Lec.Sg
open Lec.Fm
abbrev Hit := ByteArray × Nat
end Lec.Sg
namespace Lec
open Go Go.RowKit
def hitC (h : Sg.Hit) : List Value := [.string h.1, .int .i64 (h.2 : Int)]
def hitsC (l : List Sg.Hit) : List Value := l.flatMap hitC
theorem hitsC_len (l : List Sg.Hit) : (hitsC l).length = l.length * 2 := by
  induction l with
  | nil => rfl
  | cons d ds ih => rw [show hitsC (d :: ds) = hitC d ++ hitsC ds from rfl, List.length_append, ih]; simp [hitC]; omega
theorem hitsC_app (xs ys : List Sg.Hit) : hitsC (xs ++ ys) = hitsC xs ++ hitsC ys := by simp [hitsC]
theorem hitsC_one (xs : List Sg.Hit) : ∀ u ∈ hitsC xs, u.oneCell' = true := fun u hu => by
  obtain ⟨h, _, hu⟩ := List.mem_flatMap.1 hu
  simp [hitC] at hu
  rcases hu with rfl | rfl <;> rfl
theorem hitsC_at : ∀ (ds : List Sg.Hit) (i j : Nat) (h : i < ds.length), j < 2 → (hitsC ds)[i * 2 + j]? = (hitC ds[i])[j]?
  | d :: ds, 0, j, _, hj => by
    show (hitC d ++ hitsC ds)[0 * 2 + j]? = _
    rw [List.getElem?_append_left (by simp [hitC]; omega)]; simp
  | d :: ds, i + 1, j, h, hj => by
    show (hitC d ++ hitsC ds)[(i + 1) * 2 + j]? = _
    rw [List.getElem?_append_right (by simp [hitC]; omega)]
    have := hitsC_at ds i j (by simpa using h) hj
    rw [show (i + 1) * 2 + j - (hitC d).length = i * 2 + j by simp [hitC]; omega, this]
    rfl
theorem hits_cells {w : World} {A : Option Addr} {ds : List Sg.Hit} (h : Rds w A (hitsC ds)) (i : Nat) (hi : i < ds.length) :
    ∃ a, A = some a ∧ w.cell? (a.add (i * 2)) = some (.string ds[i].1) ∧ w.cell? ⟨(a.add (i * 2)).block, (a.add (i * 2)).off + 1, none⟩ = some (.int .i64 (ds[i].2 : Int)) := by
  obtain ⟨a, e0, c0⟩ := h (i * 2 + 0) _ (by rw [hitsC_at ds i 0 hi (by omega)]; rfl)
  obtain ⟨a1, e1, c1⟩ := h (i * 2 + 1) _ (by rw [hitsC_at ds i 1 hi (by omega)]; rfl)
  obtain rfl : a = a1 := by rw [e0] at e1; exact Option.some.inj e1
  exact ⟨a, e0, c0, by rw [← add_fld _ _ _ (by omega)]; exact c1⟩
namespace Sg
open Lec.Fm
/-- A document's name, by its place. -/
def idAt (ds : List Doc) (i : Nat) : ByteArray := match ds[i]? with | some d => d.id | none => ⟨#[]⟩
def whereH (ds : List Doc) (v : Nat) : Hit := (idAt ds (whereD ds v).1, (whereD ds v).2)
def asksP (p : ByteArray) : Nat := if 4096 < p.size then 2 else if p.size = 0 then 5 else 0
/-- What a search answers: from the symbols. -/
def searchH (ds : List Doc) (p : ByteArray) : List Hit := if asksP p = 0 then (findS (symD ds) (bytesN p)).map (whereH ds) else []
/-- .. and from the texts. -/
def hereT (t p : ByteArray) (k : Nat) : Bool := decide ((t.toList.drop k).take p.size = p.toList)
def textH (d : Doc) (p : ByteArray) (k : Nat) : List Hit := ((List.range k).filter (hereT d.text p)).map (fun k => (d.id, k))
def hitsD (ds : List Doc) (p : ByteArray) : List Hit := ds.flatMap (fun d => textH d p (d.text.size + 1 - p.size))
theorem hitsD_snoc (xs : List Doc) (d : Doc) (p : ByteArray) : hitsD (xs ++ [d]) p = hitsD xs p ++ textH d p (d.text.size + 1 - p.size) := by simp [hitsD]
theorem textH_step (d : Doc) (p : ByteArray) (k : Nat) : textH d p (k + 1) = textH d p k ++ (if hereT d.text p k then [(d.id, k)] else []) := by
  unfold textH
  rw [List.range_succ, List.filter_append, List.map_append, List.filter_cons]
  cases hereT d.text p k <;> rfl
theorem textH_len (d : Doc) (p : ByteArray) (k : Nat) : (textH d p k).length ≤ k := by
  unfold textH
  rw [List.length_map]
  have := List.length_filter_le (hereT d.text p) (List.range k)
  rwa [List.length_range] at this
theorem toList_len (t : ByteArray) : t.toList.length = t.size := by rw [Go.ByteArray.toList_eq]; cases t; rfl
theorem bytesN_inj {a b : List UInt8} (h : a.map (fun c => c.toNat + 1) = b.map (fun c => c.toNat + 1)) : a = b :=
  (List.map_inj_right (fun x y e => by
    have : x.toNat = y.toNat := by omega
    exact UInt8.toNat_inj.1 this)).1 h
theorem here_eq (t p : ByteArray) (k : Nat) : hereB (bytesN t) (bytesN p) k = hereT t p k := by
  unfold hereB hereT
  rw [decide_eq_decide, bytesN_len]
  unfold bytesN
  rw [← List.map_drop, ← List.map_take]
  exact ⟨bytesN_inj, fun h => by rw [h]⟩
theorem here_long {t p : ByteArray} {k : Nat} (h : t.size < k + p.size) (hp : 0 < p.size) : hereT t p k = false := by
  unfold hereT
  rw [decide_eq_false_iff_not]
  intro e
  have := congrArg List.length e
  rw [List.length_take, List.length_drop, toList_len, toList_len] at this
  omega
theorem textP_eq {t p : ByteArray} (hp : 0 < p.size) : textP (bytesN t) (bytesN p) = (List.range (t.size + 1 - p.size)).filter (hereT t p) := by
  unfold textP
  rw [bytesN_len, show (List.range (t.size + 1)).filter (hereB (bytesN t) (bytesN p)) = (List.range (t.size + 1)).filter (hereT t p) from List.filter_congr (fun k _ => here_eq t p k)]
  obtain ⟨r, hr⟩ : ∃ r, t.size + 1 = (t.size + 1 - p.size) + r := ⟨t.size + 1 - (t.size + 1 - p.size), by omega⟩
  conv => lhs; rw [hr]
  rw [List.range_add, List.filter_append]
  conv => rhs; rw [← List.append_nil ((List.range (t.size + 1 - p.size)).filter (hereT t p))]
  congr 1
  rw [List.filter_eq_nil_iff]
  intro k hk
  obtain ⟨j, _, rfl⟩ := List.mem_map.1 hk
  rw [here_long (by omega) hp]
  simp
theorem bytesN_ne (p : ByteArray) : ∀ z ∈ bytesN p, z ≠ 0 := fun z hz e => by have := (bytesN_lt p z hz).1; omega
theorem hitsI_map (p : ByteArray) (hp : 0 < p.size) (all : List Doc) : ∀ (ds : List Doc) (i : Nat), all.drop i = ds → (hitsI (bytesN p) i ds).map (fun x => (idAt all x.1, x.2)) = hitsD ds p
  | [], i, _ => rfl
  | d :: ds, i, h => by
    rw [hitsI, List.map_append, List.map_map, textP_eq hp, hitsI_map p hp all ds (i + 1) (by rw [← List.tail_drop, h]; rfl)]
    show _ = textH d p (d.text.size + 1 - p.size) ++ hitsD ds p
    congr 1
    unfold textH
    refine List.map_congr_left (fun k _ => ?_)
    have : all[i]? = some d := by
      have := congrArg (fun l => l[0]?) h
      simpa using this
    show (idAt all i, k) = (d.id, k)
    unfold idAt
    rw [this]
theorem search_eq {ds : List Doc} {p : ByteArray} (h : asksP p = 0) : searchH ds p = hitsD ds p := by
  have hp : 0 < p.size := by
    unfold asksP at h
    split at h
    · cases h
    · split at h
      · cases h
      · omega
  unfold searchH
  rw [if_pos h, ← hitsI_map p hp ds ds 0 rfl, ← hits_eq (bytesN_ne p) ds 0, List.map_map]
  refine List.map_congr_left (fun v _ => ?_)
  rfl
theorem search_no {ds : List Doc} {p : ByteArray} (h : asksP p ≠ 0) : searchH ds p = [] := if_neg h
theorem here_ext (t p : ByteArray) (k : Nat) : ((t.extract k (k + p.size)).toList == p.toList) = hereT t p k := by
  unfold hereT
  rw [Go.ByteArray.toList_eq (t.extract k (k + p.size)), Go.ByteArray.toList_eq t, ByteArray.data_extract, Array.toList_extract, List.extract_eq_take_drop]
  rw [show k + p.size - k = p.size by omega]
  generalize List.take p.size (List.drop k t.data.toList) = a
  generalize p.toList = b
  by_cases h : a = b
  · rw [h]; simp
  · rw [decide_eq_false h]; simpa using h
/-- Where a document of a name stands. -/
def placeI (ds : List Doc) (id : ByteArray) : Int := match ds.findIdx? (fun d => d.id.toList == id.toList) with | some k => (k : Int) | none => -1
theorem place_at {ds : List Doc} {id : ByteArray} {k : Nat} (hk : k < ds.length) (he : ds[k].id.toList = id.toList) (h : ∀ j, (hj : j < ds.length) → j < k → ds[j].id.toList ≠ id.toList) : placeI ds id = (k : Int) := by
  unfold placeI
  have : ds.findIdx? (fun d => d.id.toList == id.toList) = some k := by
    rw [List.findIdx?_eq_some_iff_getElem]
    exact ⟨hk, by simpa using he, fun j hj => by simpa using h j (by omega) hj⟩
  rw [this]
theorem place_no {ds : List Doc} {id : ByteArray} (h : ∀ j, (hj : j < ds.length) → ds[j].id.toList ≠ id.toList) : placeI ds id = -1 := by
  unfold placeI
  have : ds.findIdx? (fun d => d.id.toList == id.toList) = none := by
    rw [List.findIdx?_eq_none_iff]
    intro d hd
    obtain ⟨j, hj, rfl⟩ := List.getElem_of_mem hd
    simpa using h j hj
  rw [this]
theorem find_lt {s q : List Nat} {v : Nat} (h : v ∈ findS s q) : v < s.length := by
  unfold findS at h
  exact List.mem_range.1 (List.mem_filter.1 h).1
end Sg
end Lec
