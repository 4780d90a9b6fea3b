/- Layer 2 (tag): how a slice of slices of bytes is opened, and what the bound on its bulk gives. Conditions: the bulk is at most 1048576. -/
import Derived.Test.YtondcelapmbphaaRows
import Derived.Test.YtondcelapmbphaaTgF
namespace Go.Proofs.Ytondcelapmbphaa.Tg
open Go.RowKit Go.ChangeShapes Go.WideShapes
set_option linter.unusedVariables false

theorem bulk_length {H : Type} (l : List (DataW H)) : l.length ≤ Rows.uptoBulkAll l := by
  induction l with
  | nil => simp [Rows.uptoBulkAll]
  | cons x r ih =>
    have : 1 ≤ Rows.uptoBulk x := by
      cases x with
      | lit l => cases l <;> simp [Rows.uptoBulk]
      | nil => simp [Rows.uptoBulk]
      | ptr d => simp [Rows.uptoBulk]
      | slice elems spare => simp [Rows.uptoBulk]
      | agg parts => simp [Rows.uptoBulk]
      | iface t d => simp [Rows.uptoBulk]
      | map entries => simp [Rows.uptoBulk]
      | held h => simp [Rows.uptoBulk]
    simp only [Rows.uptoBulkAll, List.length_cons]
    omega

theorem bulk_row {H : Type} (A : Option Addr) (L : Nat) (Z : List Int) (hZ : A = none → Z = []) : (Z.take L).length ≤ Rows.uptoBulk (H := H) (Go.Deep.intRow .u8 A L Z) := by
  cases A with
  | none => rw [hZ rfl]; simp
  | some a =>
    have h : Rows.uptoBulk (H := H) (Go.Deep.intRow .u8 (some a) L Z) = Rows.uptoBulkAll (lits (H := H) .u8 (Z.take L)) + Rows.uptoBulkAll (lits (H := H) .u8 (Z.drop L)) + 1 := by
      simp [Go.Deep.intRow, Rows.uptoBulk]
    rw [h]
    have h2 := bulk_length (lits (H := H) .u8 (Z.take L))
    have h3 : (lits (H := H) .u8 (Z.take L)).length = (Z.take L).length := by simp [lits]
    omega

theorem bulk_sum {H : Type} (f : Nat → DataW H) (g : Nat → List Int) (h : ∀ r, (g r).length ≤ Rows.uptoBulk (f r)) : ∀ l : List Nat, (l.map g).flatten.length ≤ Rows.uptoBulkAll (l.map f)
  | [] => by simp [Rows.uptoBulkAll]
  | r :: l => by
    have := bulk_sum f g h l
    have := h r
    simp only [List.map_cons, List.flatten_cons, List.length_append, Rows.uptoBulkAll]
    omega

theorem mem_flat_le (pss : List (List Int)) (i : Nat) (h : i < pss.length) : (pss.getD i []).length ≤ pss.flatten.length := by
  have h1 := flat_le pss (i + 1)
  rw [flat_step pss i h, List.length_append] at h1
  omega

theorem open_parts {H : Type} {enc : TypeId × Value → H} {W : World} {A : Option Addr} {len cap : Nat} {d : DataW H} {p : List MemPlace} (h : DataW.Trod enc Try.prog W 0 (fun _ => true) true 30 (.slice A len cap) d p) (hb : Rows.uptoBulk d ≤ 1048576) :
    ∃ pss : List (List Int), pss.length = len ∧ PartsAt W A pss ∧ pss.flatten.length ≤ 1048576 := by
  obtain ⟨fuel, hf⟩ := h
  rcases Go.Deep.open_int_rows Try.underlying30 Try.underlying26 Try.underlying5 (by kernel_rfl) (by kernel_rfl) hf with ⟨hcs, _⟩ | ⟨a, len', cap', AA, L, C, Z, hcs, _, hl, hm, hx, hr⟩
  · simp [Value.cells] at hcs
    obtain ⟨rfl, rfl, rfl⟩ := hcs
    exact ⟨[], rfl, ⟨by simp, fun i hi => by simp at hi⟩, by simp⟩
  · simp [Value.cells] at hcs
    obtain ⟨rfl, rfl, rfl⟩ := hcs
    obtain ⟨rfl, _⟩ := Prod.mk.inj hx
    simp only [Rows.uptoBulk] at hb
    have hZ : ∀ r, r < len → AA r = none → Z r = [] := fun r hr2 h => by
      obtain ⟨_, _, _, hz, _, hn, _⟩ := hr r (by omega)
      exact List.length_eq_zero_iff.1 (by rw [hz, hn h])
    have hlen : (((List.range len).map fun r => (Z r).take (L r))).flatten.length ≤ Rows.uptoBulkAll ((List.range len).map fun r => Go.Deep.intRow (H := H) .u8 (AA r) (L r) (Z r)) := by
      have hs := bulk_sum (fun r => if r < len then Go.Deep.intRow (H := H) .u8 (AA r) (L r) (Z r) else .nil) (fun r => if r < len then (Z r).take (L r) else []) (fun r => by
        by_cases c : r < len
        · rw [if_pos c, if_pos c]; exact bulk_row _ _ _ (hZ r c)
        · rw [if_neg c, if_neg c]; simp) (List.range len)
      have e1 : (List.range len).map (fun r => if r < len then Go.Deep.intRow (H := H) .u8 (AA r) (L r) (Z r) else .nil) = (List.range len).map fun r => Go.Deep.intRow (H := H) .u8 (AA r) (L r) (Z r) :=
        List.map_congr_left fun r h => by rw [if_pos (List.mem_range.1 h)]
      have e2 : (List.range len).map (fun r => if r < len then (Z r).take (L r) else []) = (List.range len).map fun r => (Z r).take (L r) :=
        List.map_congr_left fun r h => by rw [if_pos (List.mem_range.1 h)]
      rw [e1, e2] at hs
      exact hs
    have hn := bulk_length ((List.range len).map fun r => Go.Deep.intRow (H := H) .u8 (AA r) (L r) (Z r))
    rw [List.length_map, List.length_range] at hn
    have hflat : (((List.range len).map fun r => (Z r).take (L r))).flatten.length ≤ 1048576 := by omega
    refine ⟨(List.range len).map fun r => (Z r).take (L r), by simp, ⟨by simp; omega, fun i hi => ?_⟩, hflat⟩
    have hi2 : i < len := by simpa using hi
    obtain ⟨hcell, hL, _, hz, hwf, _, hin⟩ := hr i (by omega)
    have hg : ((List.range len).map fun r => (Z r).take (L r)).getD i [] = (Z i).take (L i) := by simp [List.getD_eq_getElem?_getD, hi2]
    have hle := mem_flat_le _ i hi
    rw [hg] at hle ⊢
    obtain ⟨b, off, spot⟩ := a
    have hspot : spot = none := by simpa [Addr.add] using World.cell?_spot (hr 0 (by omega)).1
    subst hspot
    have hll : ((Z i).take (L i)).length = L i := by simp; omega
    refine ⟨b, off, AA i, C i, rfl, ?_, by omega, fun j hj => ?_⟩
    · rw [hll, ← Go.WideShapes.add_plain]; exact hcell
    · have hj2 : j < L i := by omega
      cases hA : AA i with
      | none => have := hZ i hi2 hA; rw [this] at hj; simp at hj
      | some a' =>
        obtain ⟨_, hc⟩ := hin a' hA
        obtain ⟨b2, o2, rfl, hc2⟩ := ints_at (zs := Z i) (by rw [hz]; exact hc) (by omega)
        have e : ((Z i).take (L i)).getD j 0 = (Z i).getD j 0 := by simp [List.getD_eq_getElem?_getD, List.getElem?_take_of_lt hj2]
        rw [e]
        exact ⟨b2, o2, rfl, hc2 j (by omega), u8_bounds (hwf _ (getD_mem (Z i) j (by omega)))⟩

end Go.Proofs.Ytondcelapmbphaa.Tg
