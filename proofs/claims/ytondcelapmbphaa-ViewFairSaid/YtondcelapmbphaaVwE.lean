/- Layer 14 (view): the statement ViewFair's own walk. No conditions beyond the numbers' kinds. -/
import Derived.Test.YtondcelapmbphaaVwD
import Derived.RegionTactic
import Derived.ChangeAlike
namespace Go.Proofs.Ytondcelapmbphaa.Vw
open Go.RowKit
set_option linter.unusedVariables false

theorem pat_mono (v base most : Int) (h : 0 ≤ v) : pat v base most ≤ pat (v + 1) base most := by
  unfold pat
  by_cases c1 : most < 1 ∨ 1000 < most
  · rw [if_pos c1, if_pos c1]; omega
  rw [if_neg c1, if_neg c1]
  by_cases c2 : base < 1 ∨ 100 < base ∨ 10 < v
  · rw [if_pos (by omega), if_pos (by omega)]; omega
  rw [if_neg (by omega)]
  split
  · unfold least; split <;> omega
  · have e : (v + 1).toNat = v.toNat + 1 := by omega
    rw [e]
    have h1 := pow_le_pow v.toNat (v.toNat + 1) (by omega)
    have h2 : base * 2 ^ v.toNat ≤ base * 2 ^ (v.toNat + 1) := Int.mul_le_mul_of_nonneg_left h1 (by omega)
    unfold least
    split <;> split <;> omega

/-- How often each one's turn came in the first k views. -/
def seen (nodes r k : Nat) : List Int := (List.range 7).map fun i => if i < nodes ∧ (i + nodes - r) % nodes < k then 1 else 0

theorem seen_len (nodes r k : Nat) : (seen nodes r k).length = 7 := by simp [seen]
theorem seen_zero (nodes r : Nat) : seen nodes r 0 = [0, 0, 0, 0, 0, 0, 0] := by simp [seen]; decide
theorem seen_get (nodes r k i : Nat) (hi : i < 7) : (seen nodes r k)[i]? = some (if i < nodes ∧ (i + nodes - r) % nodes < k then 1 else 0) := by
  simp [seen, hi]

theorem turn_at (nodes r k : Nat) (hn : 0 < nodes) (hr : r < nodes) (hk : k < nodes) : ((r + k) % nodes + nodes - r) % nodes = k := by
  by_cases h : r + k < nodes
  · rw [Nat.mod_eq_of_lt h, show r + k + nodes - r = k + nodes by omega, Nat.add_mod_right, Nat.mod_eq_of_lt hk]
  · have e : (r + k) % nodes = r + k - nodes := by rw [Nat.mod_eq_sub_mod (by omega), Nat.mod_eq_of_lt (by omega)]
    rw [e, show r + k - nodes + nodes - r = k by omega, Nat.mod_eq_of_lt hk]

theorem turn_only (nodes r k i : Nat) (hn : 0 < nodes) (hr : r < nodes) (hk : k < nodes) (hi : i < nodes) (h : (i + nodes - r) % nodes = k) : i = (r + k) % nodes := by
  by_cases c : r ≤ i
  · rw [show i + nodes - r = (i - r) + nodes by omega, Nat.add_mod_right, Nat.mod_eq_of_lt (by omega)] at h
    rw [← h, show r + (i - r) = i by omega, Nat.mod_eq_of_lt hi]
  · rw [Nat.mod_eq_of_lt (by omega)] at h
    rw [← h, show r + (i + nodes - r) = i + nodes by omega, Nat.add_mod_right, Nat.mod_eq_of_lt hi]

theorem seen_at (nodes r k : Nat) (hn : 0 < nodes) (h7 : nodes ≤ 7) (hr : r < nodes) (hk : k < nodes) : (seen nodes r k)[(r + k) % nodes]? = some 0 := by
  have hl := Nat.mod_lt (r + k) hn
  rw [seen_get _ _ _ _ (by omega), turn_at nodes r k hn hr hk, if_neg (by omega)]

theorem seen_step (nodes r k : Nat) (hn : 0 < nodes) (h7 : nodes ≤ 7) (hr : r < nodes) (hk : k < nodes) : seen nodes r (k + 1) = (seen nodes r k).set ((r + k) % nodes) 1 := by
  have hl := Nat.mod_lt (r + k) hn
  apply List.ext_getElem?
  intro i
  by_cases hi : i < 7
  · rw [seen_get _ _ _ _ hi]
    by_cases e : i = (r + k) % nodes
    · rw [e, List.getElem?_set_self (by rw [seen_len]; omega), turn_at nodes r k hn hr hk, if_pos ⟨hl, by omega⟩]
    · rw [List.getElem?_set_ne (by omega), seen_get _ _ _ _ hi]
      by_cases c : i < nodes
      · have : (i + nodes - r) % nodes ≠ k := fun h => e (turn_only nodes r k i hn hr hk c h)
        by_cases c2 : (i + nodes - r) % nodes < k
        · rw [if_pos ⟨c, by omega⟩, if_pos ⟨c, c2⟩]
        · rw [if_neg (by omega), if_neg (by omega)]
      · rw [if_neg (by omega), if_neg (by omega)]
  · rw [List.getElem?_eq_none (by rw [seen_len]; omega), List.getElem?_eq_none (by rw [List.length_set, seen_len]; omega)]

theorem seen_end (nodes r i : Nat) (h7 : nodes ≤ 7) (hi : i < nodes) : (seen nodes r nodes)[i]? = some 1 := by
  rw [seen_get _ _ _ _ (by omega), if_pos ⟨hi, Nat.mod_lt _ (by omega)⟩]

/-- The counts in memory. -/
structure S7 (W w : World) (b : Nat) (xs : List Int) : Prop where
  blk : w.heap[b]? = some (.cells (xs.map (Value.int .i64)).toArray 40 (0, 0))
  ge : W.heap.size ≤ b
  below : Below W.heap.size W w

theorem S7.cell {W w : World} {b : Nat} {xs : List Int} (h : S7 W w b xs) {i : Nat} {x : Int} (hx : xs[i]? = some x) : w.cell? ⟨b, i, none⟩ = some (.int .i64 x) := by
  simp [World.cell?, h.blk, hx]
theorem S7.free {W w : World} {b : Nat} {xs : List Int} (h : S7 W w b xs) (i : Nat) : w.frozen? ⟨b, i, none⟩ = false := by
  simp [World.frozen?, h.blk]
theorem S7.set {W w : World} {b : Nat} {xs : List Int} (h : S7 W w b xs) (i : Nat) (x : Int) : S7 W (w.setCell ⟨b, i, none⟩ (.int .i64 x)) b (xs.set i x) := by
  refine ⟨?_, h.ge, h.below.setCell h.ge _⟩
  have hlt := lt_of_block h.blk
  have h' : w.heap[b] = .cells (xs.map (Value.int .i64)).toArray 40 (0, 0) := by simpa [Array.getElem?_eq_getElem hlt] using h.blk
  show (w.heap.modify b _)[b]? = _
  rw [Array.getElem?_eq_getElem (by simpa using hlt), Array.getElem_modify_self, h']
  simp [List.map_set]

theorem toNat_mod (a b n : Int) (h0 : 0 ≤ a + b) (hn : 1 ≤ n) : ((a + b) % n).toNat = (a + b).toNat % n.toNat := by
  obtain ⟨x, hx⟩ := Int.eq_ofNat_of_zero_le h0
  obtain ⟨m, rfl⟩ := Int.eq_ofNat_of_zero_le (show 0 ≤ n by omega)
  rw [hx, ← Int.natCast_emod, Int.toNat_natCast, Int.toNat_natCast, Int.toNat_natCast]

theorem lead_at (index frm : Int) (N k : Nat) (c1 : 0 ≤ index) (c2 : index ≤ 1000) (c3 : 0 ≤ frm) (c4 : frm ≤ 900) (c5 : 1 ≤ N) (c6 : N ≤ 7) (hk : k ≤ N) :
    lead index (frm + k) N = (((((index + frm) % N).toNat + k) % N : Nat) : Int) := by
  unfold lead
  rw [if_neg (by omega), toNat_mod _ _ _ (by omega) (by omega), Int.toNat_natCast]
  obtain ⟨x, hx⟩ := Int.eq_ofNat_of_zero_le (show 0 ≤ index + frm by omega)
  rw [hx, show index + (frm + (k : Int)) = ((x + k : Nat) : Int) by omega, Int.toNat_natCast, Nat.mod_add_mod]
  rfl

set_option maxHeartbeats 1000000 in
theorem viewFair_walk (index frm nodes base most : Int) (h1 : (Lit.int .i64 index).wf = true) (h2 : (Lit.int .i64 frm).wf = true) (h3 : (Lit.int .i64 nodes).wf = true) (W : World) :
    Calls Try.prog 11 #[.int .i64 index, .int .i64 frm, .agg #[.int .i64 nodes, .int .i64 base, .int .i64 most]] W fun e w' => e = .returned (.bool true) ∧ Below W.heap.size W w' := by
  obtain ⟨i0, i1⟩ := i64_bounds h1
  obtain ⟨f0, f1⟩ := i64_bounds h2
  obtain ⟨n0, n1⟩ := i64_bounds h3
  clear h1 h2 h3
  have hB : Below W.heap.size W (W.alloc (.cells #[.int .i64 nodes, .int .i64 base, .int .i64 most] 39)) := (Below.refl _ _).alloc (Nat.le_refl _) _
  have HB := Lib.hid hB
  clear hB
  by_cases c : index < 0 ∨ index > 1000 ∨ frm < 0 ∨ frm > 900 ∨ nodes < 1 ∨ nodes > 7
  · have fin : ∀ n, Below W.heap.size W ((W.alloc (.cells #[.int .i64 nodes, .int .i64 base, .int .i64 most] 39)).drewN n) := fun n => below_drewN HB.out n
    have Fin := Lib.hid fin
    clear fin HB
    by_cases c1 : index < 0
    · clear c
      go_enter Try.func11, Try.ntmps11
      go_wp2
      go_quiet (fail)
      go_wp2_with (go_at_call 9; refine (names_calls _).mono ?_; rintro e w' ⟨rfl, rfl⟩)
      go_ret
      exact ⟨rfl, Fin.out _⟩
    by_cases c2 : 1000 < index
    · clear c
      go_enter Try.func11, Try.ntmps11
      go_wp2
      go_quiet (fail)
      go_wp2_with (go_at_call 9; refine (names_calls _).mono ?_; rintro e w' ⟨rfl, rfl⟩)
      go_ret
      exact ⟨rfl, Fin.out _⟩
    by_cases c3 : frm < 0
    · clear c
      go_enter Try.func11, Try.ntmps11
      go_wp2
      go_quiet (fail)
      go_wp2_with (go_at_call 9; refine (names_calls _).mono ?_; rintro e w' ⟨rfl, rfl⟩)
      go_ret
      exact ⟨rfl, Fin.out _⟩
    by_cases c4 : 900 < frm
    · clear c
      go_enter Try.func11, Try.ntmps11
      go_wp2
      go_quiet (fail)
      go_wp2_with (go_at_call 9; refine (names_calls _).mono ?_; rintro e w' ⟨rfl, rfl⟩)
      go_ret
      exact ⟨rfl, Fin.out _⟩
    by_cases c5 : nodes < 1
    · clear c
      go_enter Try.func11, Try.ntmps11
      go_wp2
      go_quiet (fail)
      go_wp2_with (go_at_call 9; refine (names_calls _).mono ?_; rintro e w' ⟨rfl, rfl⟩)
      go_ret
      exact ⟨rfl, Fin.out _⟩
    by_cases c6 : 7 < nodes
    · clear c
      go_enter Try.func11, Try.ntmps11
      go_wp2
      go_quiet (fail)
      go_wp2_with (go_at_call 9; refine (names_calls _).mono ?_; rintro e w' ⟨rfl, rfl⟩)
      go_ret
      exact ⟨rfl, Fin.out _⟩
    omega
  · have c1 : 0 ≤ index := by omega
    have c2 : index ≤ 1000 := by omega
    have c3 : 0 ≤ frm := by omega
    have c4 : frm ≤ 900 := by omega
    have c5 : 1 ≤ nodes := by omega
    have c6 : nodes ≤ 7 := by omega
    clear c i0 i1 f0 f1 n0 n1
    obtain ⟨N, rfl⟩ := Int.eq_ofNat_of_zero_le (show 0 ≤ nodes by omega)
    go_enter Try.func11, Try.ntmps11
    go_wp2
    go_quiet (fail)
    go_wp2_with fail
    refine (names_calls _).mono ?_; rintro e w' ⟨rfl, rfl⟩
    go_wp2_with fail
    obtain ⟨r, hr⟩ : ∃ r : Nat, ((index + frm) % N).toNat = r := ⟨_, rfl⟩
    have hrN : r < N := by rw [← hr, toNat_mod _ _ _ (by omega) (by omega), Int.toNat_natCast]; exact Nat.mod_lt _ (by omega)
    have LA : ∀ k : Nat, k ≤ N → lead index (frm + k) N = (((r + k) % N : Nat) : Int) := fun k hk => by
      rw [← hr]; exact lead_at index frm N k c1 c2 c3 c4 (by omega) (by omega) hk
    clear hr
    have HL := Lib.hid LA
    clear LA
    have S0 : S7 W ((((W.alloc (.cells #[.int .i64 N, .int .i64 base, .int .i64 most] 39)).drewN nq).alloc (.cells #[.int .i64 0, .int .i64 0, .int .i64 0, .int .i64 0, .int .i64 0, .int .i64 0, .int .i64 0] 40))) (W.heap.size + 1) (seen N r 0) := by
      refine ⟨?_, by omega, (below_drewN HB.out _).alloc (by simp) _⟩
      rw [seen_zero]
      have := heap_new ((W.alloc (.cells #[.int .i64 N, .int .i64 base, .int .i64 most] 39)).drewN nq) (.cells #[.int .i64 0, .int .i64 0, .int .i64 0, .int .i64 0, .int .i64 0, .int .i64 0, .int .i64 0] 40)
      simpa using this
    have H0 := Lib.hid S0
    clear S0
    go_loopw [11] (fun i wr => ∃ k : Nat, k ≤ N ∧ i = .int .i64 k ∧ Hid (S7 W wr (W.heap.size + 1) (seen N r k))) (fun i _ => N - (intOf i).toNat)
    case atStart => exact ⟨0, by omega, rfl, H0⟩
    case round =>
      obtain ⟨k, hk, rfl, hs⟩ := hrel
      by_cases hlt : k < N
      · have P := leader_calls index (frm + k) N
        rw [HL.out k hk] at P
        have hc := hs.out.cell (seen_at N r k (by omega) (by omega) hrN hlt)
        have hf := hs.out.free ((r + k) % N)
        have hn : Hid (S7 W _ (W.heap.size + 1) (seen N r (k + 1))) := Lib.hid (by rw [seen_step N r k (by omega) (by omega) hrN hlt]; exact hs.out.set ((r + k) % N) 1)
        have hl7 : (r + k) % N < 7 := by have := Nat.mod_lt (r + k) (show 0 < N by omega); omega
        have P1 := patience_calls (frm + k) base most
        have P2 := patience_calls (frm + k + 1) base most
        have PM := pat_mono (frm + k) base most (by omega)
        generalize (r + k) % N = L at *
        generalize pat (frm + k) base most = x at *
        generalize pat (frm + k + 1) base most = y at *
        have q := Lib.hid P
        have q1 := Lib.hid P1
        have q2 := Lib.hid P2
        clear P P1 P2
        go_wp2_with fail
        refine (q.out _).mono ?_; rintro e w' ⟨rfl, rfl⟩
        go_wp2_with fail
        refine (q1.out _).mono ?_; rintro e w' ⟨rfl, rfl⟩
        go_wp2_with fail
        refine (q2.out _).mono ?_; rintro e w' ⟨rfl, rfl⟩
        go_wp2_with fail
        go_roundw
        case rel => exact ⟨k + 1, by omega, by go_num, hn⟩
        case measure => simp [intOf]; omega
      · obtain rfl : k = N := by omega
        go_wp2_with fail
        go_loop [12] (fun i => ∃ j : Nat, j ≤ k ∧ i = .int .i64 j) (fun i => k - (intOf i).toNat)
        case atStart => exact ⟨0, by omega, rfl⟩
        case round =>
          obtain ⟨j, hj, rfl⟩ := hrel
          by_cases hjl : j < k
          · have hc := hs.out.cell (seen_end k r j (by omega) hjl)
            have hj7 : j < 7 := by omega
            go_wp2_with fail
            go_round
            case rel => exact ⟨j + 1, by omega, by go_num⟩
            case measure => simp [intOf]; omega
          · have hz := HL.out 0 (by omega)
            have hk0 := HL.out k (by omega)
            rw [Nat.add_zero, Nat.mod_eq_of_lt hrN, show frm + ((0 : Nat) : Int) = frm by omega] at hz
            rw [Nat.add_mod_right, Nat.mod_eq_of_lt hrN] at hk0
            have P1 := leader_calls index frm k
            have P2 := leader_calls index (frm + k) k
            rw [hz] at P1
            rw [hk0] at P2
            have q1 := Lib.hid P1
            have q2 := Lib.hid P2
            clear P1 P2 hz hk0
            go_wp2_with fail
            refine (q1.out _).mono ?_; rintro e w' ⟨rfl, rfl⟩
            go_wp2_with fail
            refine (q2.out _).mono ?_; rintro e w' ⟨rfl, rfl⟩
            go_wp2_with fail
            go_ret
            exact ⟨by simp, hs.out.below⟩

end Go.Proofs.Ytondcelapmbphaa.Vw
