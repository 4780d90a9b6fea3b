/- Layer 2 (tag): the statement TagTurns' own walk. Conditions: the slice takes at most 2^47 - 4096 bytes (the row's reach). -/
import Derived.Test.YtondcelapmbphaaTgD
import Derived.Deep.RegionHeld3
import Derived.Deep.DeepCutAuto
namespace Go.Proofs.Ytondcelapmbphaa.Tg
open Go.RowKit
set_option linter.unusedVariables false

/-- The two keys are where they were, and what was there stands. -/
def Kp (g : Nat) (k0 k1 : Int) (W1 : World) (w' : World) : Prop :=
  w'.cell? ⟨g, 0, none⟩ = some (.int .u64 k0) ∧ w'.cell? ⟨g, 1, none⟩ = some (.int .u64 k1) ∧ Hid (Below W1.heap.size W1 w' ∧ g < W1.heap.size)

theorem Kp.step {g : Nat} {k0 k1 : Int} {W1 w w' : World} (h : Kp g k0 k1 W1 w) (hb : Below w.heap.size w w') : Kp g k0 k1 W1 w' := by
  obtain ⟨h0, h1, h2, h3⟩ := h
  have hg : g < w.heap.size := Nat.lt_of_lt_of_le h3 h2.size
  exact ⟨(hb.cell (p := ⟨g, 0, none⟩) hg).trans h0, (hb.cell (p := ⟨g, 1, none⟩) hg).trans h1, h2.trans (hb.mono h2.size), h3⟩
theorem Kp.of {g : Nat} {k0 k1 : Int} {W1 w' : World} (h0 : w'.cell? ⟨g, 0, none⟩ = some (.int .u64 k0)) (h1 : w'.cell? ⟨g, 1, none⟩ = some (.int .u64 k1)) (h2 : Hid (Below W1.heap.size W1 w' ∧ g < W1.heap.size)) : Kp g k0 k1 W1 w' := ⟨h0, h1, h2⟩
theorem Kp.bel {g : Nat} {k0 k1 : Int} {W1 w : World} (h : Kp g k0 k1 W1 w) : Below W1.heap.size W1 w := h.2.2.1
theorem Kp.alloc {g : Nat} {k0 k1 : Int} {W1 w : World} (h : Kp g k0 k1 W1 w) (o : Obj) : Kp g k0 k1 W1 (w.alloc o) := h.step ((Below.refl _ _).alloc (Nat.le_refl _) _)

theorem Kp.drew {g : Nat} {k0 k1 : Int} {W1 w : World} (h : Kp g k0 k1 W1 w) : Kp g k0 k1 W1 w.drew := h.step (Below.refl _ _).drew

structure Aside (p : Prop) : Prop where mk :: (out : p)

theorem of_one (key : Int) (a : Option Addr) (cap : Nat) (bs : List Int) (V : World) (hb : BytesAt V a bs) (t : TypeId) (f : Nat × Nat) :
    Calls Try.prog 16 #[.int .u64 key, .slice (some ⟨V.heap.size, 0, none⟩) 1 1] (V.alloc (.cells #[.slice a bs.length cap] t f)) fun e w' =>
      e = .returned (.int .u64 (mark key bs)) ∧ (V.alloc (.cells #[.slice a bs.length cap] t f)) = w' := by
  have h := of_calls key _ 1 _ _ (one_part (c := cap) (t := t) (fr := f) hb)
  simpa using h

theorem cell_drewN (w : World) (n : Nat) (p : Addr) : (w.drewN n).cell? p = w.cell? p := rfl

theorem mark_set {k x : Int} {bs : List Int} {j : Nat} (hj : j < bs.length) (hx : U64 x) (hy : U64 (bs.getD j 0)) (e : mark k (bs.set j x) = mark k bs) : x = bs.getD j 0 := by
  have h1 : bs.set j x = bs.take j ++ x :: bs.drop (j + 1) := List.set_eq_take_append_cons_drop.trans (by rw [if_pos hj])
  have h2 : bs = bs.take j ++ bs.getD j 0 :: bs.drop (j + 1) := by
    have : bs.getD j 0 = bs[j] := by simp [List.getD_eq_getElem?_getD, List.getElem?_eq_getElem hj]
    rw [this, ← List.drop_eq_getElem_cons hj, List.take_append_drop]
  rw [h1] at e
  refine mark_turn (k := k) (bs := bs.take j) (cs := bs.drop (j + 1)) hx hy ?_
  rw [← h2]
  exact e

theorem Own.at {w : World} {B g C : Nat} {bs : List Int} (h : Own w B (.slice (some ⟨g, 0, none⟩) bs.length C) bs) {j : Nat} (hj : j < bs.length) :
    w.cell? ⟨g, j, none⟩ = some (.int .u8 (bs.getD j 0)) ∧ w.frozen? ⟨g, j, none⟩ = false ∧ B ≤ g := by
  obtain ⟨⟨_, h2⟩, _, hr, hl, _⟩ := h
  rcases h2 with ⟨hv, _⟩ | ⟨g', cap, cur, hv, hg, hh, hn, hcap, hsz, htake⟩
  · cases hv
  · cases hv
    refine ⟨?_, by simp [World.frozen?, hh], hg⟩
    have e : (bytes bs)[j]? = some (.int .u8 (bs.getD j 0)) := by simp [bytes, List.getElem?_eq_getElem hj, List.getD_eq_getElem?_getD]
    rw [← htake, List.getElem?_take_of_lt (by omega)] at e
    rw [Array.getElem?_toList] at e
    simpa [World.cell?, hh, List.getD_eq_getElem?_getD] using e

theorem Own.store {w : World} {B g C : Nat} {bs : List Int} (h : Own w B (.slice (some ⟨g, 0, none⟩) bs.length C) bs) {j : Nat} (hj : j < bs.length) {x : Int} (x0 : 0 ≤ x) (x1 : x ≤ 255) :
    BytesAt (w.setCell ⟨g, j, none⟩ (.int .u8 x)) (some ⟨g, 0, none⟩) (bs.set j x) := by
  refine ⟨by rw [List.length_set]; exact h.len, fun i hi => ?_⟩
  rw [List.length_set] at hi
  have hc := (h.at hi).1
  have hcj := (h.at hj).1
  refine ⟨g, 0, rfl, ?_, ?_⟩
  · rw [Nat.zero_add]
    by_cases e : i = j
    · subst e
      have : (bs.set i x).getD i 0 = x := by simp [List.getD_eq_getElem?_getD, List.getElem?_set_self hj]
      rw [this]
      exact World.cell?_setCell_same _ _ _ (h.at hj).1
    · have : (bs.set j x).getD i 0 = bs.getD i 0 := by simp [List.getD_eq_getElem?_getD, List.getElem?_set_ne (Ne.symm e)]
      rw [this, ← hc]
      exact World.cell?_setCell_other _ _ _ _ (by intro h; cases h; exact e rfl)
  · by_cases e : i = j
    · subst e
      have : (bs.set i x).getD i 0 = x := by simp [List.getD_eq_getElem?_getD, List.getElem?_set_self hj]
      rw [this]; exact ⟨x0, x1⟩
    · have : (bs.set j x).getD i 0 = bs.getD i 0 := by simp [List.getD_eq_getElem?_getD, List.getElem?_set_ne (Ne.symm e)]
      rw [this]; exact h.range _ (getD_mem bs i hi)

/-- One part, in a row that is there. -/
theorem of_at (key : Int) (a : Option Addr) (cap : Nat) (bs : List Int) (V : World) (g : Nat) (hb : BytesAt V a bs) (hc : V.cell? ⟨g, 0, none⟩ = some (.slice a bs.length cap)) :
    Calls Try.prog 16 #[.int .u64 key, .slice (some ⟨g, 0, none⟩) 1 1] V fun e w' => e = .returned (.int .u64 (mark key bs)) ∧ V = w' := by
  have h := of_calls key (some ⟨g, 0, none⟩) 1 [bs] V ⟨by simp, fun i hi => by
    obtain rfl : i = 0 := by simp at hi; omega
    exact ⟨g, 0, a, cap, rfl, hc, hb⟩⟩
  simpa using h

set_option maxHeartbeats 2000000 in
theorem tagTurns_core (k0 k1 : Int) (a : Option Addr) (cap : Nat) (bs : List Int) (pos x : Int) (hk0 : U64 k0) (hk1 : U64 k1) (W : World) (hb : BytesAt W a bs) :
    Calls Try.prog 7 #[.agg #[.int .u64 k0, .int .u64 k1], .slice a bs.length cap, .agg #[.int .i64 pos, .int .i64 x]] W fun e w' => e = .returned (.bool true) ∧ Below W.heap.size W w' := by
  have hl := hb.1
  have HBB := Lib.hid hb
  have hB0 : Below W.heap.size W ((W.alloc (.cells #[.int .u64 k0, .int .u64 k1] 32)).alloc (.cells #[.int .i64 pos, .int .i64 x] 33)) := ((Below.refl _ _).alloc (Nat.le_refl _) _).alloc (by simp) _
  have H0 := Lib.hid hB0
  clear hB0 hb
  go_enter Try.func7, Try.ntmps7
  go_wp2_with fail
  refine (names_calls _).mono ?_; rintro e w1 ⟨rfl, h1⟩
  have H1 := Lib.hid h1
  clear h1
  by_cases hlen : bs.length > 1000
  · go_wp2
    go_ret
    exact ⟨rfl, H0.out.trans (H1.out.mono (by simp; omega))⟩
  have B1 : Below (W.alloc (.cells #[.int .u64 k0, .int .u64 k1] 32)).heap.size (W.alloc (.cells #[.int .u64 k0, .int .u64 k1] 32)) ((W.alloc (.cells #[.int .u64 k0, .int .u64 k1] 32)).alloc (.cells #[.int .i64 pos, .int .i64 x] 33)) := (Below.refl _ _).alloc (Nat.le_refl _) _
  have f0 : w1.cell? ⟨W.heap.size + 1, 0, none⟩ = some (.int .i64 pos) := (H1.out.cell (p := ⟨W.heap.size + 1, 0, none⟩) (by simp)).trans (by simp)
  have f1 : w1.cell? ⟨W.heap.size + 1, 1, none⟩ = some (.int .i64 x) := (H1.out.cell (p := ⟨W.heap.size + 1, 1, none⟩) (by simp)).trans (by simp)
  have F0 := Lib.hid f0
  have F1 := Lib.hid f1
  clear f0 f1
  have kp : Kp W.heap.size k0 k1 w1 w1 := ⟨(H1.out.cell (p := ⟨W.heap.size, 0, none⟩) (by simp; omega)).trans ((B1.cell (p := ⟨W.heap.size, 0, none⟩) (by simp)).trans (cell_new rfl)), (H1.out.cell (p := ⟨W.heap.size, 1, none⟩) (by simp; omega)).trans ((B1.cell (p := ⟨W.heap.size, 1, none⟩) (by simp)).trans (cell_new rfl)), Below.refl _ _, Nat.lt_of_lt_of_le (by simp; omega) H1.out.size⟩
  have KP := Lib.hid kp
  clear B1
  obtain ⟨c0, c1, c2⟩ := kp
  have hofA : ∀ w' g k, Kp W.heap.size k0 k1 w1 w' → w'.cell? ⟨g, 0, none⟩ = some (.slice a bs.length cap) → Calls Try.prog 16 #[.int .u64 k, .slice (some ⟨g, 0, none⟩) 1 1] w' fun e w2 => e = .returned (.int .u64 (mark k bs)) ∧ w' = w2 := fun w' g k h hc =>
    of_at k a cap bs w' g ((HBB.out.below ((H0.out.trans (H1.out.mono (by simp; omega))))).below h.2.2.1) hc
  have HOF := Lib.hid hofA
  clear hofA
  have hmk : (mark k0 bs == mark k1 bs) = (k0 == k1) := by
    by_cases e : k0 = k1
    · subst e; simp
    · have h1 : (k0 == k1) = false := by simpa using e
      have h2 : (mark k0 bs == mark k1 bs) = false := by simpa using fun h => e (mark_key hk0 hk1 h)
      rw [h1, h2]
  go_upto_region 5 with (fail)
  go_cut [31] (fun v wc => v = .bool false ∧ Aside (Kp W.heap.size k0 k1 w1 wc))
  case first =>
    go_region_held3 (fun w' => w'.cell? ⟨W.heap.size, 0, none⟩ = some (.int .u64 k0) ∧ w'.cell? ⟨W.heap.size, 1, none⟩ = some (.int .u64 k1) ∧ Hid (Below w1.heap.size w1 w' ∧ W.heap.size < w1.heap.size))
      (first | (refine Kp.of ?_ ?_ ?_ <;> assumption) | (show Kp W.heap.size k0 k1 w1 _; (repeat (first | (with_reducible refine Kp.alloc (g := W.heap.size) ?_ _) | (with_reducible refine Kp.drew (g := W.heap.size) ?_))); exact KP.out))
      (first | (go_at_call 16; refine (HOF.out _ _ _ ?_ ?_).mono ?_; (first | (refine Kp.of ?_ ?_ ?_ <;> assumption) | (show Kp W.heap.size k0 k1 w1 _; (repeat (first | (with_reducible refine Kp.alloc (g := W.heap.size) ?_ _) | (with_reducible refine Kp.drew (g := W.heap.size) ?_))); exact KP.out)); (go_simp); rintro e w2 ⟨rfl, rfl⟩))
    all_goals
      go_wp2_with fail
      go_meet
      case rel => exact ⟨rfl, ⟨(by first | (refine Kp.of ?_ ?_ ?_ <;> assumption) | (show Kp W.heap.size k0 k1 w1 _; (repeat (first | (with_reducible refine Kp.alloc (g := W.heap.size) ?_ _) | (with_reducible refine Kp.drew (g := W.heap.size) ?_))); exact KP.out))⟩⟩
  case rest =>
    obtain ⟨rfl, hkp⟩ := hcut
    have HW := Lib.hid (show Below W.heap.size W wc from (H0.out.trans (H1.out.mono (by simp; omega))).trans (hkp.out.2.2.1.mono (Nat.le_trans (by simp; omega) H1.out.size)))
    have d0 : wc.cell? ⟨W.heap.size + 1, 0, none⟩ = some (.int .i64 pos) := (hkp.out.2.2.1.cell (p := ⟨W.heap.size + 1, 0, none⟩) (Nat.lt_of_lt_of_le (by simp) H1.out.size)).trans F0.out
    have d1 : wc.cell? ⟨W.heap.size + 1, 1, none⟩ = some (.int .i64 x) := (hkp.out.2.2.1.cell (p := ⟨W.heap.size + 1, 1, none⟩) (Nat.lt_of_lt_of_le (by simp) H1.out.size)).trans F1.out
    go_wp2_with fail
    go_quiet (fail)
    generalize hX : x % 256 = X at *
    have hX0 : 0 ≤ X ∧ X ≤ 255 := by rw [← hX]; omega
    clear hX
    obtain ⟨x0, x1⟩ := hX0
    by_cases hp0 : pos < 0
    · go_wp2
      go_ret
      exact ⟨rfl, below_drewN HW.out _⟩
    by_cases hp1 : bs.length ≤ pos
    · go_wp2
      go_ret
      exact ⟨rfl, below_drewN HW.out _⟩
    obtain ⟨j, rfl⟩ := Int.eq_ofNat_of_zero_le (show 0 ≤ pos by omega)
    have hj : j < bs.length := by omega
    have hjn : decide (bs.length ≤ j) = false := by simpa using hj
    obtain ⟨b, off, rfl, hcj, y0, y1⟩ := (HBB.out.below HW.out).2 j hj
    have HY := Lib.hid (show bs.getD j 0 = bs.getD j 0 from rfl)
    by_cases hyx : bs.getD j 0 = X
    · rw [hyx] at hcj
      clear hyx y0 y1 HY
      go_wp2
      go_ret
      exact ⟨rfl, below_drewN HW.out _⟩
    have HNE := Lib.hid (show mark k0 (bs.set j X) ≠ mark k0 bs from fun h => hyx (mark_set hj ⟨x0, by omega⟩ ⟨y0, by omega⟩ h).symm)
    have hyx1 : (bs.getD j 0 == X) = false := by simpa using hyx
    clear hyx HY
    generalize bs.getD j 0 = y at *
    obtain ⟨w2, hw2⟩ : ∃ w2, wc.drewN nq = w2 := ⟨_, rfl⟩
    rw [← cell_drewN wc nq] at hcj
    rw [hw2] at hcj
    rw [hw2]
    have hkp2 : Aside (Kp W.heap.size k0 k1 w1 w2) := ⟨by rw [← hw2]; exact hkp.out.step (below_drewN (Below.refl _ _) _)⟩
    have HW2 := Lib.hid (show Below W.heap.size W w2 by rw [← hw2]; exact below_drewN HW.out _)
    clear hw2 hkp HW d0 d1
    obtain ⟨v1, V1, hr1, ho1, hb1⟩ := app (w2.alloc (.cells #[] 5)) w2.heap.size _ [] bs (some ⟨b, off, none⟩) cap (Own.empty w2) ((HBB.out.below HW2.out).below ((Below.refl _ _).alloc (Nat.le_refl _) _)) (by simpa using hl) 26
    rw [List.nil_append] at ho1
    have HV1 := Lib.hid (((Below.refl _ _).alloc (Nat.le_refl _) _).trans hb1 : Below w2.heap.size w2 V1)
    obtain ⟨g, C, rfl⟩ := ho1.addr
    obtain ⟨e0, e1, e2⟩ := ho1.at hj
    have HG := Lib.hid e2
    have HO := Lib.hid ho1
    have ap := Lib.hid hr1
    clear hr1 ho1 hb1 e2
    go_wp2_with (at_builtin; refine step_append (by rfl) _ _ 26 rfl ap.out ?_)
    have HV2 : Below w2.heap.size w2 (V1.setCell ⟨g, j, none⟩ (.int .u8 X)) := HV1.out.setCell HG.out _
    have hown2 : BytesAt (V1.setCell ⟨g, j, none⟩ (.int .u8 X)) (some ⟨g, 0, none⟩) (bs.set j X) := HO.out.store hj x0 x1
    have hb2 : BytesAt (V1.setCell ⟨g, j, none⟩ (.int .u8 X)) (some ⟨b, off, none⟩) bs := (HBB.out.below HW2.out).below HV2
    have hkp3 := hkp2.out.step HV2
    have HE := Lib.hid (HW2.out.trans (HV2.mono HW2.out.size))
    clear e0 e1
    generalize V1.setCell ⟨g, j, none⟩ (.int .u8 X) = V2 at *
    have kp2 : Kp W.heap.size k0 k1 V2 V2 := ⟨hkp3.1, hkp3.2.1, Below.refl _ _, Nat.lt_of_lt_of_le (Nat.lt_of_lt_of_le hkp2.out.2.2.2 hkp2.out.2.2.1.size) HV2.size⟩
    clear hkp2 hkp3 HV2 HOF c0 c1 c2 KP hmk
    have KP := Lib.hid kp2
    obtain ⟨c0, c1, c2⟩ := kp2
    have hA : ∀ w' g' k, Kp W.heap.size k0 k1 V2 w' → w'.cell? ⟨g', 0, none⟩ = some (.slice (some ⟨b, off, none⟩) bs.length cap) → Calls Try.prog 16 #[.int .u64 k, .slice (some ⟨g', 0, none⟩) 1 1] w' fun e w2 => e = .returned (.int .u64 (mark k bs)) ∧ w' = w2 := fun w' g' k h hc =>
      of_at k _ cap bs w' g' (hb2.below h.2.2.1) hc
    have hO : ∀ w' g' k, Kp W.heap.size k0 k1 V2 w' → w'.cell? ⟨g', 0, none⟩ = some (.slice (some ⟨g, 0, none⟩) bs.length C) → Calls Try.prog 16 #[.int .u64 k, .slice (some ⟨g', 0, none⟩) 1 1] w' fun e w2 => e = .returned (.int .u64 (mark k (bs.set j X))) ∧ w' = w2 := fun w' g' k h hc =>
      of_at k _ C (bs.set j X) w' g' (hown2.below h.2.2.1) (by rw [List.length_set]; exact hc)
    have hne : (mark k0 (bs.set j X) != mark k0 bs) = true := by simpa using HNE.out
    generalize bs.set j X = cs at *
    have HA := Lib.hid hA
    have HOO := Lib.hid hO
    clear hA hO hown2 hb2 HNE
    go_region_held3 (fun w' => w'.cell? ⟨W.heap.size, 0, none⟩ = some (.int .u64 k0) ∧ w'.cell? ⟨W.heap.size, 1, none⟩ = some (.int .u64 k1) ∧ Hid (Below V2.heap.size V2 w' ∧ W.heap.size < V2.heap.size))
      (first | (refine Kp.of ?_ ?_ ?_ <;> assumption) | (show Kp W.heap.size k0 k1 V2 _; (repeat (first | (with_reducible refine Kp.alloc (g := W.heap.size) ?_ _) | (with_reducible refine Kp.drew (g := W.heap.size) ?_))); exact KP.out))
      (first | (go_at_call 16; refine (HOO.out _ _ _ ?_ ?_).mono ?_; (first | (refine Kp.of ?_ ?_ ?_ <;> assumption) | (show Kp W.heap.size k0 k1 V2 _; (repeat (first | (with_reducible refine Kp.alloc (g := W.heap.size) ?_ _) | (with_reducible refine Kp.drew (g := W.heap.size) ?_))); exact KP.out)); (focus (go_simp; done)); rintro e w2 ⟨rfl, rfl⟩) | (go_at_call 16; refine (HA.out _ _ _ ?_ ?_).mono ?_; (first | (refine Kp.of ?_ ?_ ?_ <;> assumption) | (show Kp W.heap.size k0 k1 V2 _; (repeat (first | (with_reducible refine Kp.alloc (g := W.heap.size) ?_ _) | (with_reducible refine Kp.drew (g := W.heap.size) ?_))); exact KP.out)); (focus (go_simp; done)); rintro e w2 ⟨rfl, rfl⟩))
    all_goals
      go_wp2_with fail
      go_ret
      refine ⟨rfl, HE.out.trans (Below.mono (Kp.bel (g := W.heap.size) (k0 := k0) (k1 := k1) ?_) HE.out.size)⟩
      first | (refine Kp.of ?_ ?_ ?_ <;> assumption) | (show Kp W.heap.size k0 k1 V2 _; (repeat (first | (with_reducible refine Kp.alloc (g := W.heap.size) ?_ _) | (with_reducible refine Kp.drew (g := W.heap.size) ?_))); exact KP.out)

theorem tagTurns_walk (k0 k1 : Int) (a : Option Addr) (len cap : Nat) (zs : List Int) (pos x : Int) (h0 : (Lit.int .u64 k0).wf = true) (h1 : (Lit.int .u64 k1).wf = true) {W : World} (h : IsRow .u8 W a len cap zs) (hl : len * 1 ≤ 140737488351232) :
    Calls Try.prog 7 #[.agg #[.int .u64 k0, .int .u64 k1], .slice a len cap, .agg #[.int .i64 pos, .int .i64 x]] W fun e w' => e = .returned (.bool true) ∧ Below W.heap.size W w' := by
  obtain ⟨bs, rfl, hb⟩ := row_bytes h hl
  exact tagTurns_core k0 k1 a cap bs pos x (u64_bounds h0) (u64_bounds h1) W hb

end Go.Proofs.Ytondcelapmbphaa.Tg
