/- Layer 2 (tag): the statement TagParts' own walk. Conditions: all parts together hold at most 1048576 bytes. -/
import Derived.Test.YtondcelapmbphaaTgD
import Derived.Deep.Matrix
namespace Go.Proofs.Ytondcelapmbphaa.Tg
open Go.RowKit
set_option linter.unusedVariables false

theorem PartsAt.below {w w' : World} {A : Option Addr} {pss : List (List Int)} (h : PartsAt w A pss) (hb : Below w.heap.size w w') : PartsAt w' A pss := by
  refine ⟨h.1, fun i hi => ?_⟩
  obtain ⟨b, off, a, c, rfl, hc, hbs⟩ := h.2 i hi
  exact ⟨b, off, a, c, rfl, (hb.cell (p := ⟨b, off + i, none⟩) (World.block_lt_of_cell? w _ hc)).trans hc, hbs.below hb⟩

theorem flat_step (pss : List (List Int)) (k : Nat) (h : k < pss.length) : (pss.take (k + 1)).flatten = (pss.take k).flatten ++ pss.getD k [] := by
  rw [take_step pss k [] h, List.flatten_append]; simp

theorem flat_le (pss : List (List Int)) (k : Nat) : (pss.take k).flatten.length ≤ pss.flatten.length := by
  have h : pss.flatten = (pss.take k).flatten ++ (pss.drop k).flatten := by rw [← List.flatten_append, List.take_append_drop]
  rw [h, List.length_append]
  omega

set_option maxHeartbeats 2000000 in
theorem tagParts_core (key : Int) (A : Option Addr) (cap : Nat) (pss : List (List Int)) (W : World) (hp : PartsAt W A pss) (hl : pss.flatten.length ≤ 1048576) :
    Calls Try.prog 6 #[.int .u64 key, .slice A pss.length cap] W fun e w' => e = .returned (.bool true) ∧ Below W.heap.size W w' := by
  have hn := hp.1
  have HP := Lib.hid hp
  have hO := Own.empty W
  have hB : Below W.heap.size W (W.alloc (.cells #[] 5)) := (Below.refl _ _).alloc (Nat.le_refl _) _
  have H0 := Lib.hid hO
  have HB := Lib.hid hB
  clear hO hB hp
  go_enter Try.func6, Try.ntmps6
  go_wp2_with fail
  go_loopw [5, 11] (fun v i wr => ∃ k : Nat, k ≤ pss.length ∧ i = .int .i64 k ∧ Hid (Own wr W.heap.size v (pss.take k).flatten) ∧ Hid (Below W.heap.size W wr)) (fun _ i _ => pss.length - (intOf i).toNat)
  case atStart => exact ⟨0, by omega, rfl, H0, HB⟩
  case round =>
    obtain ⟨k, hk, rfl, ho, hb⟩ := hrel
    by_cases hlt : k < pss.length
    · obtain ⟨b, off, a, c, rfl, hc, hbs⟩ := (HP.out.below hb.out).2 k hlt
      have hf := flat_step pss k hlt
      have hle := flat_le pss (k + 1)
      rw [hf, List.length_append] at hle
      obtain ⟨v', w', hrun, hown, hbel⟩ := app _ W.heap.size _ _ (pss.getD k []) a c ho.out hbs (by omega) 26
      rw [← hf] at hown
      have HO := Lib.hid hown
      have HB2 := Lib.hid (hb.out.trans hbel)
      have ap := Lib.hid hrun
      clear hown hbel hrun hf hle hbs
      generalize (pss.getD k []).length = n at *
      go_wp2_with (at_builtin; refine step_append (by rfl) _ _ 26 rfl ap.out ?_)
      go_roundw
      case rel => exact ⟨k + 1, by omega, by go_num, HO, HB2⟩
      case measure => simp [intOf]; omega
    · obtain rfl : k = pss.length := by omega
      have ho2 := ho.out
      rw [List.take_length] at ho2
      obtain ⟨A2, C2, rfl, hA2, _⟩ := ho2.reads
      have hP2 := HP.out.below hb.out
      have OP := fun (w2 : World) (h : Below _ _ w2) => of_calls key A cap pss w2 (hP2.below h)
      have OO := fun (w2 : World) (h : Below _ _ w2) t f => of_calls key (some ⟨w2.heap.size, 0, none⟩) 1 [pss.flatten] _ (one_part (c := C2) (t := t) (fr := f) (hA2.below h))
      rw [show [pss.flatten].flatten = pss.flatten by simp, show [pss.flatten].length = 1 from rfl] at OO
      have RR := fun (w2 : World) (h : Below _ _ w2) m => right_calls key m A2 C2 pss.flatten w2 (hA2.below h)
      generalize mark key pss.flatten = M at *
      clear ho2 ho H0 HP
      generalize pss.flatten = fl at *
      have HOP := Lib.hid OP
      have HOO := Lib.hid OO
      have HRR := Lib.hid RR
      have hMM : (M == M) = true := by simp
      clear OP OO RR hA2 hP2
      go_wp2_with fail
      refine (names_calls _).mono ?_; rintro e w2 ⟨rfl, h2⟩
      have H2 := Lib.hid h2
      clear h2
      go_wp2_with fail
      refine (HOP.out _ H2.out).mono ?_; rintro e w' ⟨rfl, rfl⟩
      go_wp2_with fail
      refine (HOO.out _ H2.out _ _).mono ?_; rintro e w' ⟨rfl, rfl⟩
      go_wp2_with fail
      refine (HOP.out _ (H2.out.alloc H2.out.size _)).mono ?_; rintro e w' ⟨rfl, rfl⟩
      go_wp2_with fail
      refine (HRR.out _ (H2.out.alloc H2.out.size _) _).mono ?_; rintro e w3 ⟨rfl, h3⟩
      have H3 := Lib.hid ((H2.out.alloc H2.out.size _).trans (h3.mono (Nat.le_trans H2.out.size (by simp))))
      clear h3
      go_wp2_with fail
      go_ret
      exact ⟨by simp, hb.out.trans (H3.out.mono hb.out.size)⟩

end Go.Proofs.Ytondcelapmbphaa.Tg
