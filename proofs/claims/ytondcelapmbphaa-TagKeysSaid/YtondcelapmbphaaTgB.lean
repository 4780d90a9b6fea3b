/- Layer 2 (tag): the reference's Key, and the statements' own walks TagNames, TagKeys. No conditions beyond the numbers' kinds. -/
import Derived.Test.YtondcelapmbphaaTg
namespace Go.Proofs.Ytondcelapmbphaa.Tg
open Go.RowKit
set_option linter.unusedVariables false

theorem gen_step (m i K : Nat) (M : Int) : ((m % 2 ^ (i + 1) * K : Nat) : Int) % M = (((m % 2 ^ i * K : Nat) : Int) % M + (if m / 2 ^ i % 2 = 1 then ((K : Int) * 2 ^ i) % M else 0)) % M := by
  have hmod : m % 2 ^ (i + 1) = m % 2 ^ i + 2 ^ i * (m / 2 ^ i % 2) := by rw [Nat.pow_succ, Nat.mod_mul]
  rw [hmod]
  rcases Nat.mod_two_eq_zero_or_one (m / 2 ^ i) with h0 | h1
  · rw [h0, if_neg (by omega), Nat.mul_zero, Nat.add_zero, Int.add_zero, Int.emod_emod_of_dvd _ (Int.dvd_refl M)]
  · rw [h1, if_pos rfl, ← Int.add_emod, Nat.mul_one, Nat.add_mul, Int.natCast_add, Int.natCast_mul (2 ^ i) K, Int.mul_comm (K : Int), Int.natCast_pow]
    rfl

def keyOf (m : Nat) : Int := ((m * 11400714819323198485 : Nat) : Int) % 18446744073709551616

theorem keyOf_mod (m : Nat) (i : Nat) : keyOf (m % 2 ^ (i + 1)) = IntKind.u64.wrap (keyOf (m % 2 ^ i) + if m / 2 ^ i % 2 = 1 then IntKind.u64.wrap (11400714819323198485 * 2 ^ i) else 0) := by
  rw [IntKind.wrap_u64, IntKind.wrap_u64]
  exact gen_step m i 11400714819323198485 18446744073709551616

theorem keyOf_wrap (m : Nat) : IntKind.u64.wrap (keyOf m + 0) = keyOf m := by rw [IntKind.wrap_u64]; unfold keyOf; omega

theorem bit_of (m i : Nat) (hm : m < 18446744073709551616) : Go.bits .and .u64 ((m : Int) / 2 ^ i) 1 = ((m / 2 ^ i % 2 : Nat) : Int) := by
  have hq : ((m : Int) / 2 ^ i) = ((m / 2 ^ i : Nat) : Int) := by rw [Int.natCast_ediv, Int.natCast_pow]; rfl
  have hle : m / 2 ^ i ≤ m := Nat.div_le_self _ _
  rw [hq]
  generalize m / 2 ^ i = q at *
  rw [and_one_u64 _ (by omega) (by omega)]
  rfl

theorem keyOf_all (m : Nat) (hm : m < 18446744073709551616) : keyOf (m % 2 ^ 64) = IntKind.u64.wrap ((m : Int) * 11400714819323198485) := by
  rw [Nat.mod_eq_of_lt (show m < 2 ^ 64 from hm), IntKind.wrap_u64]
  unfold keyOf
  rw [Int.natCast_mul]
  rfl

set_option maxHeartbeats 1000000 in
theorem refkey_calls (n : Int) (w : World) : Calls Try.prog 18 #[.int .i64 n] w fun e w' =>
    e = .returned (.int .u64 (IntKind.u64.wrap (IntKind.u64.wrap (IntKind.u64.wrap n + 1) * 11400714819323198485))) ∧ w = w' := by
  obtain ⟨m, hm⟩ : ∃ m : Nat, IntKind.u64.wrap (IntKind.u64.wrap n + 1) = (m : Int) := by
    have := wrap_u64_range (IntKind.u64.wrap n + 1)
    exact ⟨(IntKind.u64.wrap (IntKind.u64.wrap n + 1)).toNat, by omega⟩
  have hlt : m < 18446744073709551616 := by have := wrap_u64_range (IntKind.u64.wrap n + 1); omega
  have HF := Lib.hid (keyOf_all m hlt)
  have HS := Lib.hid (fun i => keyOf_mod m i)
  have HT := Lib.hid (fun i => bit_of m i hlt)
  clear hlt
  rw [hm]
  go_enter Try.func18, Try.ntmps18
  go_wp2
  go_loop [3, 5] (fun s i => ∃ (k : Nat) (x : Int), k ≤ 64 ∧ i = .int .i64 k ∧ s = .int .u64 x ∧ Hid (x = keyOf (m % 2 ^ k))) (fun _ i => 64 - (intOf i).toNat)
  case atStart => exact ⟨0, 0, by omega, rfl, rfl, by show (0 : Int) = keyOf (m % 1); rw [Nat.mod_one]; rfl⟩
  case round =>
    obtain ⟨k, x, hk, rfl, rfl, hx⟩ := hrel
    by_cases hlk : k < 64
    · have hbit := HT.out k
      have hstep := HS.out k
      rcases Nat.mod_two_eq_zero_or_one (m / 2 ^ k) with h0 | h1
      · rw [h0] at hbit
        rw [h0, if_neg (by omega), ← hx.out] at hstep
        have HR := Lib.hid hstep
        clear hstep h0
        go_wp2
        go_round
        case rel => exact ⟨k + 1, _, by omega, by go_num, rfl, by show x = _; rw [HR.out, hx.out]; exact (keyOf_wrap _).symm⟩
        case measure => simp [intOf]; omega
      · rw [h1] at hbit
        rw [h1, if_pos rfl, ← hx.out] at hstep
        have HR := Lib.hid hstep
        clear hstep h1
        go_wp2
        go_round
        case rel => exact ⟨k + 1, _, by omega, by go_num, rfl, by show _ = _; rw [HR.out]⟩
        case measure => simp [intOf]; omega
    · obtain rfl : k = 64 := by omega
      go_wp2
      go_ret
      exact ⟨by rw [← HF.out, ← hx.out]; rfl, rfl⟩

theorem tagNames_walk (W : World) : Calls Try.prog 3 #[] W fun e w' => e = .returned (.bool true) ∧ Below W.heap.size W w' := names_calls W

set_option maxHeartbeats 400000 in
theorem tagKeys_walk (n : Int) (_ : (Lit.int .i64 n).wf = true) (W : World) : Calls Try.prog 4 #[.int .i64 n] W fun e w' => e = .returned (.bool true) ∧ Below W.heap.size W w' := by
  have P := key_calls n
  have R := refkey_calls n
  generalize (IntKind.u64.wrap (IntKind.u64.wrap (IntKind.u64.wrap n + 1) * 11400714819323198485)) = r at *
  have hp := Lib.hid P
  have hr := Lib.hid R
  clear P R
  go_enter Try.func4, Try.ntmps4
  go_wp2_with fail
  refine (names_calls _).mono ?_; rintro e w1 ⟨rfl, hb⟩
  have HB := Lib.hid hb
  clear hb
  go_wp2_with fail
  refine (hp.out _).mono ?_; rintro e w' ⟨rfl, rfl⟩
  go_wp2_with fail
  refine (hr.out _).mono ?_; rintro e w' ⟨rfl, rfl⟩
  go_wp2_with fail
  go_ret
  exact ⟨by simp, HB.out⟩

end Go.Proofs.Ytondcelapmbphaa.Tg
