/- Layer 14 (view): the statements' own walks: ViewNames, ViewTurns, ViewTicks. No conditions beyond the numbers' kinds. -/
import Derived.Test.YtondcelapmbphaaVwB
import Derived.WalkSmall
namespace Go.Proofs.Ytondcelapmbphaa.Vw
open Go.RowKit

theorem quiet_back {f : FuncId} {args : Array Value} {w : World} {n : Nat} {v : Value}
    (h : Calls Try.prog f args (w.drewN n) fun e w' => e = .returned v ∧ w.drewN n = w') : Calls Try.prog f args (w.drewN n) fun e w'' => e = .returned v ∧ ∃ m, w'' = w.drewN m :=
  h.mono fun _ _ ⟨he, hm⟩ => ⟨he, n, hm.symm⟩

theorem i64_bounds {n : Int} (h : (Lit.int .i64 n).wf = true) : -9223372036854775808 ≤ n ∧ n ≤ 9223372036854775807 := by
  simp only [Lit.wf, IntKind.min, IntKind.max, IntKind.signed, IntKind.bits, Bool.and_eq_true, decide_eq_true_eq, if_true] at h
  omega

theorem viewNames_walk (W : World) : Calls Try.prog 9 #[] W fun e w' => e = .returned (.bool true) ∧ Below W.heap.size W w' :=
  (names_calls W).mono fun _ _ ⟨he, hw⟩ => ⟨he, by subst hw; exact Below.refl _ _⟩

theorem mod_sub (a n : Int) : (a - n) % n = a % n := Int.sub_emod_right a n

set_option maxHeartbeats 400000 in
/-- The reference's Leader. -/
theorem reflead_calls (a v n : Int) (w : World) :
    Calls Try.prog 22 #[.int .i64 a, .int .i64 v, .int .i64 n] w fun e w' => e = .returned (.int .i64 (lead a v n)) ∧ w = w' := by
  by_cases c : a < 0 ∨ 1000 < a ∨ v < 0 ∨ 1000 < v ∨ n < 1 ∨ 7 < n
  · have hl : lead a v n = 0 := by unfold lead; rw [if_pos c]
    rw [hl]
    clear hl
    by_cases c1 : a < 0
    · clear c; go_enter Try.func22, Try.ntmps22; go_wp2; go_ret; exact ⟨rfl, rfl⟩
    by_cases c2 : 1000 < a
    · clear c; go_enter Try.func22, Try.ntmps22; go_wp2; go_ret; exact ⟨rfl, rfl⟩
    by_cases c3 : v < 0
    · clear c; go_enter Try.func22, Try.ntmps22; go_wp2; go_ret; exact ⟨rfl, rfl⟩
    by_cases c4 : 1000 < v
    · clear c; go_enter Try.func22, Try.ntmps22; go_wp2; go_ret; exact ⟨rfl, rfl⟩
    by_cases c5 : n < 1
    · clear c; go_enter Try.func22, Try.ntmps22; go_wp2; go_ret; exact ⟨rfl, rfl⟩
    by_cases c6 : 7 < n
    · clear c; go_enter Try.func22, Try.ntmps22; go_wp2; go_ret; exact ⟨rfl, rfl⟩
    omega
  · have hl : lead a v n = (a + v) % n := by unfold lead; rw [if_neg c]
    rw [hl]
    clear hl
    have c1 : ¬ a < 0 := by omega
    have c2 : ¬ 1000 < a := by omega
    have c3 : ¬ v < 0 := by omega
    have c4 : ¬ 1000 < v := by omega
    have c5 : ¬ n < 1 := by omega
    have c6 : ¬ 7 < n := by omega
    clear c
    obtain ⟨r, hr⟩ : ∃ r, (a + v) % n = r := ⟨_, rfl⟩
    rw [hr]
    have HR := Lib.hid hr
    clear hr
    go_enter Try.func22, Try.ntmps22
    go_wp2
    go_loop [7] (fun x => ∃ m : Int, x = .int .i64 m ∧ 0 ≤ m ∧ m ≤ 2000 ∧ Hid (m % n = r)) (fun x => (intOf x).toNat)
    case atStart => exact ⟨a + v, rfl, by omega, by omega, HR⟩
    case round =>
      obtain ⟨m, rfl, hm0, hm1, hm2⟩ := hrel
      by_cases hlt : m < n
      · have hf : m = r := by rw [← hm2.out]; exact (Int.emod_eq_of_lt hm0 hlt).symm
        subst hf
        go_wp2
        go_ret
        exact ⟨rfl, rfl⟩
      · go_wp2
        go_round
        case rel => exact ⟨m - n, rfl, by omega, by omega, by show (m - n) % n = r; rw [mod_sub]; exact hm2.out⟩
        case measure => simp [intOf]; omega

set_option maxHeartbeats 400000 in
theorem viewTurns_walk (a v n : Int) (_ : (Lit.int .i64 a).wf = true) (_ : (Lit.int .i64 v).wf = true) (_ : (Lit.int .i64 n).wf = true) (W : World) :
    Calls Try.prog 10 #[.int .i64 a, .int .i64 v, .int .i64 n] W fun e w' => e = .returned (.bool true) ∧ Below W.heap.size W w' := by
  have P := leader_calls a v n
  have R := reflead_calls a v n
  generalize lead a v n = r at *
  have hp := Lib.hid P
  have hr := Lib.hid R
  clear P R
  go_enter Try.func10, Try.ntmps10
  go_wp2_with (first | (go_at_call 9; refine (names_calls _).mono ?_; rintro e w' ⟨rfl, rfl⟩) | (go_at_call 21; refine (hp.out _).mono ?_; rintro e w' ⟨rfl, rfl⟩) | (go_at_call 22; refine (hr.out _).mono ?_; rintro e w' ⟨rfl, rfl⟩))
  go_ret
  exact ⟨by simp, Below.refl _ _⟩

theorem tick_range {n : Int} (h1 : n ≤ 9223372036854775807) : 0 ≤ tick n ∧ tick n ≤ 9223372036854775807 := by
  unfold tick; split <;> omega

theorem heap_new (w : World) (o : Obj) : (w.alloc o).heap[w.heap.size]? = some o := by
  show (w.heap.push o)[w.heap.size]? = some o
  simp

set_option maxHeartbeats 400000 in
theorem viewTicks_walk (n : Int) (hn : (Lit.int .i64 n).wf = true) (W : World) :
    Calls Try.prog 12 #[.int .i64 n] W fun e w' => e = .returned (.bool true) ∧ Below W.heap.size W w' := by
  obtain ⟨h0, h1⟩ := i64_bounds hn
  clear hn
  have T : ∀ b, (W.alloc (.cells #[.int .i64 n] 43)).heap[b]? = some (.cells #[.int .i64 n] 43 (0, 0)) → W.heap.size ≤ b → T1 W (W.alloc (.cells #[.int .i64 n] 43)) b n :=
    fun b h1 h2 => ⟨h1, h2, (Below.refl _ _).alloc (Nat.le_refl _) _⟩
  have R := reftick_calls n h0 h1
  have X := tick_range h1
  have K := fun b w h => tick_calls W w b n h0 h1 h
  generalize tick n = r at *
  have hr := Lib.hid R
  have hk := Lib.hid K
  have ht := Lib.hid T
  clear R K T
  go_enter Try.func12, Try.ntmps12
  go_wp2_with fail
  refine (hk.out _ _ (ht.out _ (heap_new W _) (Nat.le_refl _))).mono ?_
  rintro e w1 ⟨rfl, h⟩
  have hc := cell_of_one h.blk
  have hb := Lib.hid h.below
  clear h
  have rr : (r == r) = true := by simp
  by_cases hz : r = 0
  · subst hz
    go_wp2_with fail
    go_quiet ((first | (go_at_call 9; exact quiet_back (names_calls _)) | (go_at_call 24; exact quiet_back (hr.out _))))
    go_wp2
    go_ret
    exact ⟨rfl, below_drewN hb.out _⟩
  · have hz1 : (r == 0) = false := by simpa using hz
    go_wp2_with fail
    go_quiet ((first | (go_at_call 9; exact quiet_back (names_calls _)) | (go_at_call 24; exact quiet_back (hr.out _))))
    go_wp2
    go_ret
    exact ⟨rfl, below_drewN hb.out _⟩

end Go.Proofs.Ytondcelapmbphaa.Vw
