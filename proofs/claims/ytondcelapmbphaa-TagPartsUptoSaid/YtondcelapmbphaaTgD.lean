/- Layer 2 (tag): the statement TagSteps' own walk. Conditions: the slice takes at most 2^47 - 4096 bytes (the row's reach). -/
import Derived.Test.YtondcelapmbphaaTgC
import Derived.Test.YtondcelapmbphaaMix
import Derived.Deep.QuietTactic
import Derived.BigQuiet
namespace Go.Proofs.Ytondcelapmbphaa.Tg
open Go.RowKit
set_option linter.unusedVariables false

/-- Several parts: a new row of slices. -/
theorem parts_new {w : World} {fr : Nat × Nat} {t : TypeId} (ps : List (Option Addr × Nat × List Int)) (hn : ps.length ≤ 100) (h : ∀ p ∈ ps, BytesAt w p.1 p.2.2) :
    PartsAt (w.alloc (.cells (ps.map fun p => Value.slice p.1 p.2.2.length p.2.1).toArray t fr)) (some ⟨w.heap.size, 0, none⟩) (ps.map (·.2.2)) := by
  refine ⟨by simp; omega, fun i hi => ?_⟩
  have hi2 : i < ps.length := by simpa using hi
  have e : (ps.map (·.2.2)).getD i [] = ps[i].2.2 := by simp [List.getD_eq_getElem?_getD, List.getElem?_eq_getElem hi2]
  refine ⟨w.heap.size, 0, ps[i].1, ps[i].2.1, rfl, ?_, ?_⟩
  · rw [e, Nat.zero_add]
    exact cell_new (by simp [List.getElem?_eq_getElem hi2])
  · rw [e]
    exact (h _ (List.getElem_mem hi2)).below ((Below.refl _ _).alloc (Nat.le_refl _) _)

theorem of_two (key : Int) (a : Option Addr) (cap : Nat) (bs : List Int) (x : Int) (h0 : 0 ≤ x) (h1 : x ≤ 255) (V : World) (hb : BytesAt V a bs) (t1 t2 : TypeId) (f1 f2 : Nat × Nat) :
    Calls Try.prog 16 #[.int .u64 key, .slice (some ⟨V.heap.size + 1, 0, none⟩) 2 2] ((V.alloc (.cells #[.int .u8 x] t1 f1)).alloc (.cells #[.slice a bs.length cap, .slice (some ⟨V.heap.size, 0, none⟩) 1 1] t2 f2)) fun e w' =>
      e = .returned (.int .u64 (mark key (bs ++ [x]))) ∧ Below V.heap.size V w' := by
  have hB : Below V.heap.size V (V.alloc (.cells #[.int .u8 x] t1 f1)) := (Below.refl _ _).alloc (Nat.le_refl _) _
  have hp := parts_new (w := V.alloc (.cells #[.int .u8 x] t1 f1)) (fr := f2) (t := t2) [(a, cap, bs), (some ⟨V.heap.size, 0, none⟩, 1, [x])] (by simp)
    (by intro p hp; simp at hp; rcases hp with rfl | rfl; exact hb.below hB; exact one_byte h0 h1)
  have hc := of_calls key _ 2 _ _ hp
  have hc2 : Calls Try.prog 16 #[.int .u64 key, .slice (some ⟨V.heap.size + 1, 0, none⟩) 2 2] ((V.alloc (.cells #[.int .u8 x] t1 f1)).alloc (.cells #[.slice a bs.length cap, .slice (some ⟨V.heap.size, 0, none⟩) 1 1] t2 f2)) fun e w' =>
      e = .returned (.int .u64 (mark key (bs ++ [x]))) ∧ ((V.alloc (.cells #[.int .u8 x] t1 f1)).alloc (.cells #[.slice a bs.length cap, .slice (some ⟨V.heap.size, 0, none⟩) 1 1] t2 f2)) = w' := by simpa using hc
  refine hc2.mono fun _ _ ⟨he, hw⟩ => ⟨he, ?_⟩
  subst hw
  exact hB.alloc (by simp) _

theorem of_three (key : Int) (a : Option Addr) (cap : Nat) (bs : List Int) (x : Int) (h0 : 0 ≤ x) (h1 : x ≤ 255) (V : World) (hb : BytesAt V a bs) (t1 t2 t3 : TypeId) (f1 f2 f3 : Nat × Nat) :
    Calls Try.prog 16 #[.int .u64 key, .slice (some ⟨V.heap.size + 1 + 1, 0, none⟩) 3 3] (((V.alloc (.cells #[.int .u8 x] t1 f1)).alloc (.cells #[] t3 f3)).alloc (.cells #[.slice a bs.length cap, .slice (some ⟨V.heap.size, 0, none⟩) 1 1, .slice (some ⟨V.heap.size + 1, 0, none⟩) 0 0] t2 f2)) fun e w' =>
      e = .returned (.int .u64 (mark key (bs ++ [x]))) ∧ Below V.heap.size V w' := by
  have hB : Below V.heap.size V (V.alloc (.cells #[.int .u8 x] t1 f1)) := (Below.refl _ _).alloc (Nat.le_refl _) _
  have hC : Below (V.alloc (.cells #[.int .u8 x] t1 f1)).heap.size (V.alloc (.cells #[.int .u8 x] t1 f1)) ((V.alloc (.cells #[.int .u8 x] t1 f1)).alloc (.cells #[] t3 f3)) := (Below.refl _ _).alloc (Nat.le_refl _) _
  have hp := parts_new (w := (V.alloc (.cells #[.int .u8 x] t1 f1)).alloc (.cells #[] t3 f3)) (fr := f2) (t := t2) [(a, cap, bs), (some ⟨V.heap.size, 0, none⟩, 1, [x]), (some ⟨V.heap.size + 1, 0, none⟩, 0, [])] (by simp)
    (by
      intro p hp
      simp at hp
      rcases hp with rfl | rfl | rfl
      · exact (hb.below hB).below hC
      · exact (one_byte h0 h1).below hC
      · exact ⟨by simp, fun j hj => by simp at hj⟩)
  have hc := of_calls key _ 3 _ _ hp
  have hc2 : Calls Try.prog 16 #[.int .u64 key, .slice (some ⟨V.heap.size + 1 + 1, 0, none⟩) 3 3] (((V.alloc (.cells #[.int .u8 x] t1 f1)).alloc (.cells #[] t3 f3)).alloc (.cells #[.slice a bs.length cap, .slice (some ⟨V.heap.size, 0, none⟩) 1 1, .slice (some ⟨V.heap.size + 1, 0, none⟩) 0 0] t2 f2)) fun e w' =>
      e = .returned (.int .u64 (mark key (bs ++ [x]))) ∧ (((V.alloc (.cells #[.int .u8 x] t1 f1)).alloc (.cells #[] t3 f3)).alloc (.cells #[.slice a bs.length cap, .slice (some ⟨V.heap.size, 0, none⟩) 1 1, .slice (some ⟨V.heap.size + 1, 0, none⟩) 0 0] t2 f2)) = w' := by simpa using hc
  refine hc2.mono fun _ _ ⟨he, hw⟩ => ⟨he, ?_⟩
  subst hw
  exact (hB.alloc (by simp) _).alloc (by simp; omega) _

theorem Own.alloc {w : World} {B : Nat} {v : Value} {bs : List Int} (h : Own w B v bs) (o : Obj) : Own (w.alloc o) B v bs :=
  ⟨h.row.alloc o, h.addr, h.range, h.len, Nat.le_trans h.base (by simp)⟩

/-- 'append(append([]byte{}, b...), x)', and the question whether a mark is right for it. -/
theorem right_app (key : Int) (a : Option Addr) (cap : Nat) (bs : List Int) (x : Int) (h0 : 0 ≤ x) (h1 : x ≤ 255) (V : World) (hb : BytesAt V a bs) (hl : bs.length ≤ 1000) :
    ∃ v1 V1, (Builtin.append_ #[26, 26] 26 #[.slice (some ⟨V.heap.size, 0, none⟩) 0 0, .slice a bs.length cap]).run Try.prog (V.alloc (.cells #[] 5)) = .ok v1 V1 ∧ Below V.heap.size V V1 ∧
      ∃ v2 V2, (Builtin.append_ #[26, 26] 26 #[v1, .slice (some ⟨V1.heap.size, 0, none⟩) 1 1]).run Try.prog (V1.alloc (.cells #[.int .u8 x] 5)) = .ok v2 V2 ∧ Below V.heap.size V V2 ∧
        ∀ m, Calls Try.prog 17 #[.int .u64 key, .int .u64 m, v2] V2 fun e w' => e = .returned (.bool (mark key (bs ++ [x]) == m)) ∧ Below V.heap.size V w' := by
  have hB : Below V.heap.size V (V.alloc (.cells #[] 5)) := (Below.refl _ _).alloc (Nat.le_refl _) _
  obtain ⟨v1, V1, hr1, ho1, hb1⟩ := app (V.alloc (.cells #[] 5)) V.heap.size _ [] bs a cap (Own.empty V) (hb.below hB) (by simp; omega) 26
  rw [List.nil_append] at ho1
  have hV1 := hB.trans hb1
  refine ⟨v1, V1, hr1, hV1, ?_⟩
  have hs := one_byte (w := V1) (x := x) (fr := (0, 0)) (t := 5) h0 h1
  obtain ⟨v2, V2, hr2, ho2, hb2⟩ := app (V1.alloc (.cells #[.int .u8 x] 5)) V.heap.size v1 bs [x] _ 1 (ho1.alloc _) hs (by simp; omega) 26
  have hV2 := (hV1.alloc hV1.size _).trans hb2
  refine ⟨v2, V2, hr2, hV2, fun m => ?_⟩
  obtain ⟨A, C, rfl, hA, _⟩ := ho2.reads
  exact (right_calls key m A C _ V2 hA).mono fun _ _ ⟨he, hw⟩ => ⟨he, hV2.trans (hw.mono hV2.size)⟩

set_option maxHeartbeats 2000000 in
theorem tagSteps_core (key : Int) (a : Option Addr) (cap : Nat) (bs : List Int) (x y : Int) (hk : U64 key) (hx : 0 ≤ x ∧ x ≤ 255) (hy : 0 ≤ y ∧ y ≤ 255) (W : World) (hb : BytesAt W a bs) :
    Calls Try.prog 8 #[.int .u64 key, .slice a bs.length cap, .agg #[.int .u8 x, .int .u8 y]] W fun e w' => e = .returned (.bool true) ∧ Below W.heap.size W w' := by
  obtain ⟨hx0, hx1⟩ := hx
  obtain ⟨hy0, hy1⟩ := hy
  have hl := hb.1
  have HBB := Lib.hid hb
  have hB0 : Below W.heap.size W (W.alloc (.cells #[.int .u8 x, .int .u8 y] 35)) := (Below.refl _ _).alloc (Nat.le_refl _) _
  have H0 := Lib.hid hB0
  have HN : Hid (x ≠ y → mark key (bs ++ [x]) ≠ mark key (bs ++ [y])) := Lib.hid fun hne e => hne (mark_turn (cs := []) ⟨hx0, by omega⟩ ⟨hy0, by omega⟩ e)
  clear hb hB0
  have cx : ∀ w1, Below (W.heap.size + 1) (W.alloc (.cells #[.int .u8 x, .int .u8 y] 35)) w1 → w1.cell? ⟨W.heap.size, 0, none⟩ = some (.int .u8 x) ∧ w1.cell? ⟨W.heap.size, 1, none⟩ = some (.int .u8 y) := fun w1 h =>
    ⟨(h.cell (p := ⟨W.heap.size, 0, none⟩) (by simp)).trans (cell_new (by simp)), (h.cell (p := ⟨W.heap.size, 1, none⟩) (by simp)).trans (cell_new (by simp))⟩
  have CX := Lib.hid cx
  clear cx
  go_enter Try.func8, Try.ntmps8
  go_wp2_with fail
  refine (names_calls _).mono ?_; rintro e w1 ⟨rfl, h1⟩
  obtain ⟨c0, c1⟩ := CX.out w1 (by simpa using h1)
  have H1 := Lib.hid (H0.out.trans (h1.mono (by simp)))
  clear h1
  go_wp2_with fail
  go_quiet (fail)
  by_cases hlen : bs.length > 1000
  · go_wp2
    go_ret
    exact ⟨rfl, below_drewN H1.out _⟩
  by_cases hxy : x = y
  · have hxy1 : (x == y) = true := by simpa using hxy
    clear hxy
    go_wp2
    go_ret
    exact ⟨rfl, below_drewN H1.out _⟩
  have hxy1 : (x == y) = false := by simpa using hxy
  have hne := HN.out hxy
  clear hxy
  obtain ⟨w2, hw2⟩ : ∃ w2, w1.drewN nq = w2 := ⟨_, rfl⟩
  rw [hw2]
  have H2 := Lib.hid (show Below W.heap.size W w2 by rw [← hw2]; exact below_drewN H1.out _)
  clear hw2
  have O2 := fun V (h : Below W.heap.size W V) z h0 h1 => of_two key a cap bs z h0 h1 V (HBB.out.below h)
  have O3 := fun V (h : Below W.heap.size W V) => of_three key a cap bs x hx0 hx1 V (HBB.out.below h)
  have RA := fun V (h : Below W.heap.size W V) z h0 h1 => right_app key a cap bs z h0 h1 V (HBB.out.below h) (by omega)
  have ox := fun V h => O2 V h x hx0 hx1
  have oy := fun V h => O2 V h y hy0 hy1
  have rx := fun V h => RA V h x hx0 hx1
  have ry := fun V h => RA V h y hy0 hy1
  clear O2 RA
  generalize mark key (bs ++ [x]) = M at *
  generalize mark key (bs ++ [y]) = N at *
  have OX := Lib.hid ox
  have OY := Lib.hid oy
  have OZ := Lib.hid O3
  have RX := Lib.hid rx
  have RY := Lib.hid ry
  clear ox oy O3 rx ry
  have m1 : (M == M) = true := by simp
  have m2 : (M != N) = true := by simpa using hne
  have m3 : (N == M) = false := by simpa using fun e => hne (Eq.symm e)
  clear hne
  go_wp2_with fail
  refine (OX.out w2 H2.out _ _ _ _).mono ?_; rintro e w3 ⟨rfl, h3⟩
  have H3 := Lib.hid (H2.out.trans (h3.mono H2.out.size))
  clear h3
  go_wp2_with fail
  refine (OY.out w3 H3.out _ _ _ _).mono ?_; rintro e w4 ⟨rfl, h4⟩
  have H4 := Lib.hid (H3.out.trans (h4.mono H3.out.size))
  clear h4
  go_wp2_with fail
  refine (OZ.out w4 H4.out _ _ _ _ _ _).mono ?_; rintro e w5 ⟨rfl, h5⟩
  have H5 := Lib.hid (H4.out.trans (h5.mono H4.out.size))
  clear h5
  obtain ⟨v1, V1, hr1, hB1, v2, V2, hr2, hB2, hR⟩ := RX.out w5 H5.out
  have ap1 := Lib.hid hr1
  have ap2 := Lib.hid hr2
  have rr := Lib.hid (hR M)
  clear hr1 hr2 hR hB1 hB2
  go_wp2_with (first | (at_builtin; refine step_append (by rfl) _ _ 26 rfl ap1.out ?_) | (at_builtin; refine step_append (by rfl) _ _ 26 rfl ap2.out ?_))
  refine rr.out.mono ?_; rintro e w6 ⟨rfl, h6⟩
  have H6 := Lib.hid (H5.out.trans (h6.mono H5.out.size))
  clear h6 rr ap1 ap2
  obtain ⟨v3, V3, hr1, hB1, v4, V4, hr2, hB2, hR⟩ := RY.out w6 H6.out
  have ap1 := Lib.hid hr1
  have ap2 := Lib.hid hr2
  have rr := Lib.hid (hR M)
  clear hr1 hr2 hR hB1 hB2
  go_wp2_with (first | (at_builtin; refine step_append (by rfl) _ _ 26 rfl ap1.out ?_) | (at_builtin; refine step_append (by rfl) _ _ 26 rfl ap2.out ?_))
  refine rr.out.mono ?_; rintro e w7 ⟨rfl, h7⟩
  have H7 := Lib.hid (H6.out.trans (h7.mono H6.out.size))
  clear h7
  go_wp2_with fail
  go_ret
  exact ⟨rfl, H7.out⟩

theorem u64_bounds {n : Int} (h : (Lit.int .u64 n).wf = true) : U64 n := by
  simp [Lit.wf, IntKind.min, IntKind.max, IntKind.signed, IntKind.bits] at h
  unfold U64
  omega

theorem tagSteps_walk (key : Int) (a : Option Addr) (len cap : Nat) (zs : List Int) (x y : Int) (hk : (Lit.int .u64 key).wf = true) (hx : (Lit.int .u8 x).wf = true) (hy : (Lit.int .u8 y).wf = true) {W : World} (h : IsRow .u8 W a len cap zs) (hl : len * 1 ≤ 140737488351232) :
    Calls Try.prog 8 #[.int .u64 key, .slice a len cap, .agg #[.int .u8 x, .int .u8 y]] W fun e w' => e = .returned (.bool true) ∧ Below W.heap.size W w' := by
  obtain ⟨bs, rfl, hb⟩ := row_bytes h hl
  exact tagSteps_core key a cap bs x y (u64_bounds hk) (u8_bounds hx) (u8_bounds hy) W hb

end Go.Proofs.Ytondcelapmbphaa.Tg
