/- Layer 14 (view): what the reference's Patience and the chapter's example come to. No conditions beyond the numbers' kinds. -/
import Derived.Test.YtondcelapmbphaaVw
namespace Go.Proofs.Ytondcelapmbphaa.Vw
open Go.RowKit

theorem two_pow_ge : ∀ k : Nat, (k : Int) + 1 ≤ (2 : Int) ^ k
  | 0 => by decide
  | k + 1 => by have := two_pow_ge k; rw [Int.pow_succ]; omega
theorem pow_le_pow (a b : Nat) (h : a ≤ b) : (2 : Int) ^ a ≤ 2 ^ b := by
  obtain ⟨d, rfl⟩ := Nat.exists_eq_add_of_le h
  rw [Int.pow_add]
  have h1 := two_pow_ge a
  have h2 := two_pow_ge d
  have := Int.mul_le_mul (Int.le_refl ((2 : Int) ^ a)) (show (1 : Int) ≤ 2 ^ d by omega) (by omega) (by omega)
  omega

/-- Where the reference's loop ends. -/
theorem exit_pat (v base most m : Int) (k : Nat) (h1 : 1 ≤ most) (h2 : most ≤ 1000) (h3 : 0 ≤ v) (h4 : 1 ≤ base) (h5 : base ≤ 100) (hm : m = base * 2 ^ k) (hm2 : m ≤ 2000) (hk : (k : Int) ≤ v)
    (hx : v ≤ k ∨ most ≤ m) : pat v base most = least m most := by
  unfold pat
  rw [if_neg (by omega)]
  have hb : (2 : Int) ^ k ≤ m := by
    rw [hm]
    have h6 := two_pow_ge k
    have := Int.mul_le_mul h4 (Int.le_refl ((2 : Int) ^ k)) (by omega) (by omega)
    omega
  by_cases hv : 10 < v
  · rw [if_pos (by omega)]
    rcases hx with hx | hx
    · have h11 := pow_le_pow 11 k (by omega)
      have : (2 : Int) ^ 11 = 2048 := by decide
      omega
    · unfold least; split <;> omega
  · rw [if_neg (by omega)]
    rcases hx with hx | hx
    · have : v.toNat = k := by omega
      rw [this, hm]
    · have h11 := pow_le_pow k v.toNat (by omega)
      have : m ≤ base * 2 ^ v.toNat := by rw [hm]; exact Int.mul_le_mul_of_nonneg_left h11 (by omega)
      unfold least
      split <;> split <;> omega

set_option maxHeartbeats 400000 in
theorem refpat_calls (v base most : Int) (hv0 : v ≤ 9223372036854775807) (w : World) :
    Calls Try.prog 25 #[.int .i64 v, .int .i64 base, .int .i64 most] w fun e w' => e = .returned (.int .i64 (pat v base most)) ∧ w = w' := by
  by_cases hm : most < 1
  · have hp : pat v base most = 1000 := by unfold pat; rw [if_pos (.inl hm)]
    rw [hp]
    clear hp
    go_enter Try.func25, Try.ntmps25
    go_wp2
    go_ret
    exact ⟨rfl, rfl⟩
  by_cases hm2 : 1000 < most
  · have hp : pat v base most = 1000 := by unfold pat; rw [if_pos (.inr hm2)]
    rw [hp]
    clear hp
    go_enter Try.func25, Try.ntmps25
    go_wp2
    go_ret
    exact ⟨rfl, rfl⟩
  have hp0 : v < 0 ∨ base < 1 ∨ 100 < base → pat v base most = most := by
    intro h; unfold pat; rw [if_neg (by omega), if_pos (by omega)]
  by_cases hv : v < 0
  · rw [hp0 (.inl hv)]; clear hp0
    go_enter Try.func25, Try.ntmps25
    go_wp2
    go_ret
    exact ⟨rfl, rfl⟩
  by_cases hb1 : base < 1
  · rw [hp0 (.inr (.inl hb1))]; clear hp0
    go_enter Try.func25, Try.ntmps25
    go_wp2
    go_ret
    exact ⟨rfl, rfl⟩
  by_cases hb2 : 100 < base
  · rw [hp0 (.inr (.inr hb2))]; clear hp0
    go_enter Try.func25, Try.ntmps25
    go_wp2
    go_ret
    exact ⟨rfl, rfl⟩
  clear hp0
  have X := fun m k a b c d => exit_pat v base most m k (by omega) (by omega) (by omega) (by omega) (by omega) a b c d
  have HX := Lib.hid X
  clear X
  generalize pat v base most = p at *
  go_enter Try.func25, Try.ntmps25
  go_wp2
  go_loop [7, 8] (fun n i => ∃ (k : Nat) (m : Int), n = .int .i64 m ∧ i = .int .i64 k ∧ Hid (m = base * 2 ^ k) ∧ 1 ≤ m ∧ m ≤ 2000 ∧ (k : Int) ≤ v) (fun _ i => (v - intOf i).toNat)
  case atStart => exact ⟨0, base, rfl, rfl, by show base = base * 2 ^ 0; simp, by omega, by omega, by omega⟩
  case round =>
    obtain ⟨k, m, rfl, rfl, hm3, hm4, hm5, hk⟩ := hrel
    by_cases hlt : (k : Int) < v
    · by_cases hlm : m < most
      · go_wp2
        go_round
        case rel => exact ⟨k + 1, 2 * m, rfl, by go_num, by show 2 * m = base * 2 ^ (k + 1); rw [hm3.out, Int.pow_succ, Int.mul_comm 2 (base * 2 ^ k), Int.mul_assoc], by omega, by omega, by omega⟩
        case measure => simp [intOf]; omega
      · have hf : p = least m most := HX.out m k hm3.out hm5 hk (.inr (by omega))
        have hl : least m most = most := by unfold least; split <;> omega
        rw [hl] at hf
        subst hf
        by_cases hmm : p < m
        · go_wp2
          go_ret
          exact ⟨rfl, rfl⟩
        · obtain rfl : m = p := by omega
          go_wp2
          go_ret
          exact ⟨rfl, rfl⟩
    · have hf : p = least m most := HX.out m k hm3.out hm5 hk (.inl (by omega))
      by_cases hmm : most < m
      · have hl : least m most = most := by unfold least; rw [if_pos hmm]
        rw [hl] at hf
        subst hf
        go_wp2
        go_ret
        exact ⟨rfl, rfl⟩
      · have hl : least m most = m := by unfold least; rw [if_neg hmm]
        rw [hl] at hf
        subst hf
        go_wp2
        go_ret
        exact ⟨rfl, rfl⟩

set_option maxHeartbeats 400000 in
theorem names_calls (w : World) : Calls Try.prog 9 #[] w fun e w' => e = .returned (.bool true) ∧ w = w' := by
  have p0 : ∀ w, Calls Try.prog 20 #[.int .i64 0, .int .i64 3, .int .i64 10] w fun e w' => e = .returned (.int .i64 3) ∧ w = w' := fun w => patience_calls 0 3 10 w
  have p1 : ∀ w, Calls Try.prog 20 #[.int .i64 1, .int .i64 3, .int .i64 10] w fun e w' => e = .returned (.int .i64 6) ∧ w = w' := fun w => patience_calls 1 3 10 w
  have p2 : ∀ w, Calls Try.prog 20 #[.int .i64 2, .int .i64 3, .int .i64 10] w fun e w' => e = .returned (.int .i64 10) ∧ w = w' := fun w => patience_calls 2 3 10 w
  have p9 : ∀ w, Calls Try.prog 20 #[.int .i64 99, .int .i64 3, .int .i64 10] w fun e w' => e = .returned (.int .i64 10) ∧ w = w' := fun w => patience_calls 99 3 10 w
  have p4 : ∀ w, Calls Try.prog 21 #[.int .i64 2, .int .i64 3, .int .i64 4] w fun e w' => e = .returned (.int .i64 1) ∧ w = w' := fun w => leader_calls 2 3 4 w
  have q0 := Lib.hid p0
  have q1 := Lib.hid p1
  have q2 := Lib.hid p2
  have q9 := Lib.hid p9
  have q4 := Lib.hid p4
  clear p0 p1 p2 p9 p4
  go_enter Try.func9, Try.ntmps9
  go_wp2_with fail
  refine (q0.out _).mono ?_; rintro e w' ⟨rfl, rfl⟩
  go_wp2_with fail
  refine (q1.out _).mono ?_; rintro e w' ⟨rfl, rfl⟩
  go_wp2_with fail
  refine (q2.out _).mono ?_; rintro e w' ⟨rfl, rfl⟩
  go_wp2_with fail
  refine (q9.out _).mono ?_; rintro e w' ⟨rfl, rfl⟩
  go_wp2_with fail
  refine (q4.out _).mono ?_; rintro e w' ⟨rfl, rfl⟩
  go_wp2
  go_ret
  exact ⟨rfl, rfl⟩

end Go.Proofs.Ytondcelapmbphaa.Vw
