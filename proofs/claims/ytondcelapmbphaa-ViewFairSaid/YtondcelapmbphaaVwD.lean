/- Layer 14 (view): the statements' own walks: ViewWaits, ViewOver. No conditions beyond the numbers' kinds. -/
import Derived.Test.YtondcelapmbphaaVwC
namespace Go.Proofs.Ytondcelapmbphaa.Vw
open Go.RowKit

theorem pat_range {v base most : Int} : 1 ≤ pat v base most ∧ pat v base most ≤ 1000 := by
  unfold pat
  split
  · omega
  · split
    · omega
    · rename_i h1 h2
      have hp := pow_le v.toNat (by omega)
      have := Int.mul_le_mul (show 1 ≤ base by omega) hp.1 (by omega) (by omega)
      unfold least
      split <;> omega

theorem T1.alloc0 (W : World) : T1 W (W.alloc (.cells #[.int .i64 0] 43)) W.heap.size 0 :=
  ⟨heap_new W _, Nat.le_refl _, (Below.refl _ _).alloc (Nat.le_refl _) _⟩

set_option maxHeartbeats 400000 in
theorem viewWaits_walk (v base most : Int) (hv : (Lit.int .i64 v).wf = true) (_ : (Lit.int .i64 base).wf = true) (_ : (Lit.int .i64 most).wf = true) (W : World) :
    Calls Try.prog 13 #[.int .i64 v, .int .i64 base, .int .i64 most] W fun e w' => e = .returned (.bool true) ∧ Below W.heap.size W w' := by
  obtain ⟨h0, h1⟩ := i64_bounds hv
  clear hv
  have P := patience_calls v base most
  have R := refpat_calls v base most h1
  have S := fun w b n => set_calls W w b n v base most
  have X : 1 ≤ pat v base most ∧ pat v base most ≤ 1000 := pat_range
  generalize pat v base most = p at *
  have hp := Lib.hid P
  have hr := Lib.hid R
  have hs := Lib.hid S
  clear P R S
  obtain ⟨x1, x2⟩ := X
  have hpp : (p != p) = false := by simp
  go_enter Try.func13, Try.ntmps13
  go_wp2_with fail
  refine (names_calls _).mono ?_; rintro e w' ⟨rfl, rfl⟩
  go_wp2_with fail
  refine (hr.out _).mono ?_; rintro e w' ⟨rfl, rfl⟩
  go_wp2_with fail
  refine (hs.out _ _ _ (T1.alloc0 W)).mono ?_
  rintro e w1 ⟨rfl, h⟩
  have hc := cell_of_one h.blk
  have hh := Lib.hid h
  clear h
  go_wp2_with fail
  refine (hp.out _).mono ?_; rintro e w' ⟨rfl, rfl⟩
  go_wp2_with fail
  go_loopw [7, 9, 10] (fun t i o wr => ∃ (k : Nat) (n : Int), t = .int .i64 n ∧ i = .int .i64 k ∧ 0 ≤ n ∧ n ≤ 1000 ∧ k ≤ 5 ∧ Hid (T1 W wr W.heap.size n)) (fun _ i _ _ => (5 - intOf i).toNat)
  case atStart => exact ⟨0, p, rfl, rfl, by omega, by omega, by omega, hh⟩
  case round =>
    obtain ⟨k, n, rfl, rfl, hn0, hn1, hk, ht⟩ := hrel
    by_cases hlt : k < 5
    · have K := tick_calls W _ _ n (by omega) (by omega) ht.out
      have R := reftick_calls n (by omega) (by omega)
      have X : 0 ≤ tick n ∧ tick n ≤ 1000 := by unfold tick; split <;> omega
      generalize tick n = m at *
      have hk2 := Lib.hid K
      have hr2 := Lib.hid R
      clear K R
      obtain ⟨x3, x4⟩ := X
      have hmm : (m != m) = false := by simp
      go_wp2_with fail
      refine hk2.out.mono ?_
      rintro e w2 ⟨rfl, h⟩
      have hc := cell_of_one h.blk
      have hh := Lib.hid h
      clear h
      go_wp2_with fail
      refine (hr2.out _).mono ?_; rintro e w' ⟨rfl, rfl⟩
      by_cases hz : m = 0
      · subst hz
        go_wp2
        go_roundw
        case rel => exact ⟨k + 1, _, rfl, by go_num, by omega, by omega, by omega, hh⟩
        case measure => simp [intOf]; omega
      · have hz1 : (m == 0) = false := by simpa using hz
        go_wp2
        go_roundw
        case rel => exact ⟨k + 1, _, rfl, by go_num, by omega, by omega, by omega, hh⟩
        case measure => simp [intOf]; omega
    · obtain rfl : k = 5 := by omega
      go_wp2
      go_ret
      exact ⟨rfl, ht.out.below⟩

set_option maxHeartbeats 400000 in
theorem viewOver_walk (v base most : Int) (_ : (Lit.int .i64 v).wf = true) (_ : (Lit.int .i64 base).wf = true) (_ : (Lit.int .i64 most).wf = true) (W : World) :
    Calls Try.prog 14 #[.int .i64 v, .int .i64 base, .int .i64 most] W fun e w' => e = .returned (.bool true) ∧ Below W.heap.size W w' := by
  have P := patience_calls v base most
  have S := fun w b n => set_calls W w b n v base most
  have X : 1 ≤ pat v base most ∧ pat v base most ≤ 1000 := pat_range
  generalize pat v base most = p at *
  have hp := Lib.hid P
  have hs := Lib.hid S
  clear P S
  obtain ⟨x1, x2⟩ := X
  go_enter Try.func14, Try.ntmps14
  go_wp2_with fail
  refine (names_calls _).mono ?_; rintro e w' ⟨rfl, rfl⟩
  go_wp2_with fail
  refine (hs.out _ _ _ (T1.alloc0 W)).mono ?_
  rintro e w1 ⟨rfl, h⟩
  have hh := Lib.hid h
  clear h
  go_wp2_with fail
  refine (hp.out _).mono ?_; rintro e w' ⟨rfl, rfl⟩
  go_wp2_with fail
  go_loopw [9] (fun i wr => ∃ (k : Nat) (n : Int), i = .int .i64 k ∧ 1 ≤ k ∧ (k : Int) ≤ p + 4 ∧ Hid (n = if p < k then 0 else p - k + 1) ∧ 0 ≤ n ∧ n ≤ 1000 ∧ Hid (T1 W wr W.heap.size n)) (fun i _ => (p + 4 - intOf i).toNat)
  case atStart => exact ⟨1, p, rfl, by omega, by omega, by show p = _; rw [if_neg (by omega)]; omega, by omega, by omega, hh⟩
  case round =>
    obtain ⟨k, n, rfl, hk1, hk, hn, hn0, hn1, ht⟩ := hrel
    by_cases hlt : (k : Int) ≤ p + 3
    · have K := tick_calls W _ _ n (by omega) (by omega) ht.out
      have X : Hid (tick n = if p < (k + 1 : Nat) then 0 else p - (k + 1 : Nat) + 1) := by
        show _ = _
        rw [hn.out]
        unfold tick
        split <;> split <;> (try split) <;> omega
      have Y : 0 ≤ tick n ∧ tick n ≤ 1000 := by unfold tick; split <;> omega
      generalize tick n = m at *
      have hk2 := Lib.hid K
      clear K
      obtain ⟨x3, x4⟩ := Y
      go_wp2_with fail
      refine hk2.out.mono ?_
      rintro e w2 ⟨rfl, h⟩
      have hh := Lib.hid h
      clear h
      have Z := X.out
      by_cases hz : p ≤ k
      · obtain rfl : m = 0 := by rw [Z]; split <;> omega
        clear Z
        go_wp2
        go_roundw
        case rel => exact ⟨k + 1, _, by go_num, by omega, by omega, X, by omega, by omega, hh⟩
        case measure => simp [intOf]; omega
      · have hm0 : (m == 0) = false := by
          have : m ≠ 0 := by rw [Z]; split <;> omega
          simpa using this
        clear Z
        go_wp2
        go_roundw
        case rel => exact ⟨k + 1, _, by go_num, by omega, by omega, X, by omega, by omega, hh⟩
        case measure => simp [intOf]; omega
    · have Z := hn.out
      obtain rfl : n = 0 := by rw [Z, if_pos (by omega)]
      clear Z
      have hc := cell_of_one ht.out.blk
      go_wp2
      go_ret
      exact ⟨rfl, ht.out.below⟩

end Go.Proofs.Ytondcelapmbphaa.Vw
