/- Layer 14 (view): what the program's functions Patience, Leader, Tick, Set and the reference's come to, function by function. No conditions beyond the numbers' kinds. -/
import Derived.Test.YtondcelapmbphaaProg
import Derived.Below
import Derived.WalkKit
import Derived.KernelRfl
import Derived.IntWalk
import Derived.Lib.Hide
import Derived.OneCell
import Derived.Deep.QuietTactic
import Derived.BigQuiet
namespace Go.Proofs.Ytondcelapmbphaa.Vw
open Go.RowKit

def least (a b : Int) : Int := if b < a then b else a

/-- How long one waits, in plain numbers. -/
def pat (v base most : Int) : Int :=
  if most < 1 ∨ 1000 < most then 1000
  else if v < 0 ∨ base < 1 ∨ 100 < base ∨ 10 < v then most
  else least (base * 2 ^ v.toNat) most

theorem pow_le : ∀ n : Nat, n ≤ 10 → 1 ≤ (2 : Int) ^ n ∧ (2 : Int) ^ n ≤ 1024 := by decide

set_option maxHeartbeats 400000 in
theorem patience_calls (v base most : Int) (w : World) :
    Calls Try.prog 20 #[.int .i64 v, .int .i64 base, .int .i64 most] w fun e w' => e = .returned (.int .i64 (pat v base most)) ∧ w = w' := by
  by_cases hm : most < 1
  · have hp : pat v base most = 1000 := by unfold pat; rw [if_pos (.inl hm)]
    rw [hp]
    clear hp
    by_cases hv : v < 0
    all_goals
      go_enter Try.func20, Try.ntmps20
      go_wp2
      go_ret
      exact ⟨rfl, rfl⟩
  by_cases hm2 : 1000 < most
  · have hp : pat v base most = 1000 := by unfold pat; rw [if_pos (.inr hm2)]
    rw [hp]
    clear hp
    by_cases hv : v < 0
    all_goals
      go_enter Try.func20, Try.ntmps20
      go_wp2
      go_ret
      exact ⟨rfl, rfl⟩
  have hp0 : pat v base most = if v < 0 ∨ base < 1 ∨ 100 < base ∨ 10 < v then most else least (base * 2 ^ v.toNat) most := by
    unfold pat; rw [if_neg (by omega)]
  rw [hp0]
  clear hp0
  by_cases hv : v < 0
  · rw [if_pos (.inl hv)]
    go_enter Try.func20, Try.ntmps20
    go_wp2
    go_ret
    exact ⟨rfl, rfl⟩
  by_cases hb1 : base < 1
  · rw [if_pos (.inr (.inl hb1))]
    go_enter Try.func20, Try.ntmps20
    go_wp2
    go_ret
    exact ⟨rfl, rfl⟩
  by_cases hb2 : 100 < base
  · rw [if_pos (.inr (.inr (.inl hb2)))]
    go_enter Try.func20, Try.ntmps20
    go_wp2
    go_ret
    exact ⟨rfl, rfl⟩
  by_cases hv2 : 10 < v
  · rw [if_pos (.inr (.inr (.inr hv2)))]
    go_enter Try.func20, Try.ntmps20
    go_wp2
    go_ret
    exact ⟨rfl, rfl⟩
  rw [if_neg (by omega)]
  obtain ⟨J, hJ⟩ : ∃ J, base * 2 ^ v.toNat = J := ⟨_, rfl⟩
  have hp := pow_le v.toNat (by omega)
  have hJ0 : 1 ≤ J ∧ J ≤ 102400 := by
    rw [← hJ]
    refine ⟨?_, ?_⟩
    · have := Int.mul_le_mul (show 1 ≤ base by omega) hp.1 (by omega) (by omega); omega
    · have := Int.mul_le_mul (show base ≤ 100 by omega) hp.2 (by omega) (by omega); omega
  have hw : IntKind.i64.wrap (base * 2 ^ v.toNat) = J := by rw [hJ]; exact IntWalk.i64_in _ (by omega)
  have hw2 : wrap64 (base * 2 ^ v.toNat) = J := by rw [hJ]; unfold wrap64; omega
  rw [hJ]
  clear hJ hp
  obtain ⟨j1, j2⟩ := hJ0
  have hle : ∀ (c : Prop) [Decidable c], (if c then most else J) = (if c then most else J) := fun _ _ => rfl
  by_cases hc : most < J
  · have hl : least J most = most := by unfold least; rw [if_pos hc]
    rw [hl]
    clear hl hle
    go_enter Try.func20, Try.ntmps20
    go_wp2
    go_ret
    exact ⟨rfl, rfl⟩
  · have hl : least J most = J := by unfold least; rw [if_neg hc]
    rw [hl]
    clear hl hle
    go_enter Try.func20, Try.ntmps20
    go_wp2
    go_ret
    exact ⟨rfl, rfl⟩

/-- Whose turn it is, in plain numbers. -/
def lead (a v n : Int) : Int := if a < 0 ∨ 1000 < a ∨ v < 0 ∨ 1000 < v ∨ n < 1 ∨ 7 < n then 0 else (a + v) % n

set_option maxHeartbeats 400000 in
theorem leader_calls (a v n : Int) (w : World) :
    Calls Try.prog 21 #[.int .i64 a, .int .i64 v, .int .i64 n] w fun e w' => e = .returned (.int .i64 (lead a v n)) ∧ w = w' := by
  by_cases c : a < 0 ∨ 1000 < a ∨ v < 0 ∨ 1000 < v ∨ n < 1 ∨ 7 < n
  · have hl : lead a v n = 0 := by unfold lead; rw [if_pos c]
    rw [hl]
    clear hl
    by_cases c1 : a < 0
    · clear c; go_enter Try.func21, Try.ntmps21; go_wp2; go_ret; exact ⟨rfl, rfl⟩
    by_cases c2 : 1000 < a
    · clear c; go_enter Try.func21, Try.ntmps21; go_wp2; go_ret; exact ⟨rfl, rfl⟩
    by_cases c3 : v < 0
    · clear c; go_enter Try.func21, Try.ntmps21; go_wp2; go_ret; exact ⟨rfl, rfl⟩
    by_cases c4 : 1000 < v
    · clear c; go_enter Try.func21, Try.ntmps21; go_wp2; go_ret; exact ⟨rfl, rfl⟩
    by_cases c5 : n < 1
    · clear c; go_enter Try.func21, Try.ntmps21; go_wp2; go_ret; exact ⟨rfl, rfl⟩
    by_cases c6 : 7 < n
    · clear c; go_enter Try.func21, Try.ntmps21; go_wp2; go_ret; exact ⟨rfl, rfl⟩
    omega
  · have hl : lead a v n = (a + v) % n := by unfold lead; rw [if_neg c]
    rw [hl]
    clear hl
    have c1 : ¬ a < 0 := by omega
    have c2 : ¬ 1000 < a := by omega
    have c3 : ¬ v < 0 := by omega
    have c4 : ¬ 1000 < v := by omega
    have c5 : ¬ n < 1 := by omega
    have c6 : ¬ 7 < n := by omega
    clear c
    have hz : (n == 0) = false := by simp; omega
    go_enter Try.func21, Try.ntmps21
    go_wp2
    go_ret
    exact ⟨rfl, rfl⟩

def tick (n : Int) : Int := if n < 1 then 0 else n - 1

/-- The reference's tick. -/
theorem reftick_calls (n : Int) (h0 : -9223372036854775808 ≤ n) (h1 : n ≤ 9223372036854775807) (w : World) :
    Calls Try.prog 24 #[.int .i64 n] w fun e w' => e = .returned (.int .i64 (tick n)) ∧ w = w' := by
  by_cases c : n < 1
  · have hl : tick n = 0 := by unfold tick; rw [if_pos c]
    rw [hl]; clear hl
    go_enter Try.func24, Try.ntmps24; go_wp2; go_ret; exact ⟨rfl, rfl⟩
  · have hl : tick n = n - 1 := by unfold tick; rw [if_neg c]
    rw [hl]; clear hl
    go_enter Try.func24, Try.ntmps24; go_wp2; go_ret; exact ⟨rfl, rfl⟩

/-- A timer that the call made: its block, what is left; what was there before W stands. -/
structure T1 (W w : World) (b : Nat) (n : Int) : Prop where
  blk : w.heap[b]? = some (.cells #[.int .i64 n] 43 (0, 0))
  ge : W.heap.size ≤ b
  below : Below W.heap.size W w

theorem T1.set {W w : World} {b : Nat} {n : Int} (h : T1 W w b n) (m : Int) : T1 W (w.setCell ⟨b, 0, none⟩ (.int .i64 m)) b m :=
  ⟨one_setCell h.blk, h.ge, h.below.setCell h.ge _⟩

theorem T1.drewN {W w : World} {b : Nat} {n : Int} (h : T1 W w b n) (k : Nat) : T1 W (w.drewN k) b n :=
  ⟨h.blk, h.ge, h.below.trans ⟨rfl, rfl, rfl, Nat.le_refl _, fun _ _ => rfl⟩⟩

set_option maxHeartbeats 400000 in
theorem set_calls (W w : World) (b : Nat) (n v base most : Int) (h : T1 W w b n) :
    Calls Try.prog 26 #[.pointer (some ⟨b, 0, none⟩), .int .i64 v, .int .i64 base, .int .i64 most] w fun e w' => e = .returned (.tuple #[]) ∧ T1 W w' b (pat v base most) := by
  have hc := cell_of_one h.blk
  have hf := free_of_one h.blk
  have H := Lib.hid h
  clear h
  have P := patience_calls v base most
  generalize pat v base most = p at *
  go_enter Try.func26, Try.ntmps26
  go_wp2_with (go_at_call 20; refine (P _).mono ?_; rintro e w' ⟨rfl, rfl⟩)
  go_end0
  exact ⟨rfl, H.out.set _⟩

theorem tick_one : tick 1 = 0 := rfl
theorem mx_neg (n : Int) (c : n < 1) : tick n = 0 := by unfold tick; rw [if_pos c]

set_option maxHeartbeats 400000 in
theorem tick_calls (W w : World) (b : Nat) (n : Int) (h0 : -9223372036854775808 ≤ n) (h1 : n ≤ 9223372036854775807) (h : T1 W w b n) :
    Calls Try.prog 23 #[.pointer (some ⟨b, 0, none⟩)] w fun e w' => e = .returned (.bool (tick n == 0)) ∧ T1 W w' b (tick n) := by
  have hc := cell_of_one h.blk
  have hf := free_of_one h.blk
  have H := Lib.hid h
  clear h
  by_cases c : n < 1
  · have hl : tick n = 0 := by unfold tick; rw [if_pos c]
    rw [hl]; clear hl
    go_enter Try.func23, Try.ntmps23
    go_wp2
    go_ret
    exact ⟨rfl, H.out.set _⟩
  · by_cases c1 : n = 1
    · subst c1
      rw [tick_one]
      go_enter Try.func23, Try.ntmps23
      go_wp2
      go_ret
      exact ⟨rfl, (H.out.set _).set _⟩
    · have hl : tick n = n - 1 := by unfold tick; rw [if_neg c]
      rw [hl]; clear hl
      have c2 : 1 < n := by omega
      clear c c1
      go_enter Try.func23, Try.ntmps23
      go_wp2
      go_ret
      exact ⟨rfl, (H.out.set _).set _⟩

end Go.Proofs.Ytondcelapmbphaa.Vw
