/- The mark in plain numbers: unlike states stay unlike. No program here. -/
import Derived.Test.YtondcelapmbphaaTg
namespace Go.Proofs.Ytondcelapmbphaa.Tg
open Go.RowKit
set_option linter.unusedVariables false

def U64 (x : Int) : Prop := 0 ≤ x ∧ x < 18446744073709551616

theorem bv_of (x : Int) (h : U64 x) : ((BitVec.ofInt 64 x).toNat : Int) = x := by
  obtain ⟨h0, h1⟩ := h
  rw [BitVec.toNat_ofInt]
  have : ((2 ^ 64 : Nat) : Int) = 18446744073709551616 := by decide
  rw [this]
  omega

theorem xor_toNat (x y : Int) : Go.bits .xor .u64 x y = ((BitVec.ofInt 64 x ^^^ BitVec.ofInt 64 y).toNat : Int) := by
  show IntKind.u64.wrap ((BitVec.ofInt 64 x ^^^ BitVec.ofInt 64 y).toNat : Int) = _
  rw [IntKind.wrap_u64]
  have := (BitVec.ofInt 64 x ^^^ BitVec.ofInt 64 y).isLt
  omega

theorem ofInt_inj {x y : Int} (hx : U64 x) (hy : U64 y) (h : BitVec.ofInt 64 x = BitVec.ofInt 64 y) : x = y := by
  rw [← bv_of x hx, ← bv_of y hy, h]

theorem ofInt_nat (b : BitVec 64) : BitVec.ofInt 64 (b.toNat : Int) = b := by
  simp

theorem xor_left_inj {x y z : Int} (hx : U64 x) (hy : U64 y) (h : Go.bits .xor .u64 x z = Go.bits .xor .u64 y z) : x = y := by
  rw [xor_toNat, xor_toNat] at h
  have h2 : BitVec.ofInt 64 x ^^^ BitVec.ofInt 64 z = BitVec.ofInt 64 y ^^^ BitVec.ofInt 64 z := BitVec.eq_of_toNat_eq (by omega)
  exact ofInt_inj hx hy (by simpa [BitVec.xor_left_inj] using h2)

theorem xor_right_inj {x y z : Int} (hx : U64 x) (hy : U64 y) (h : Go.bits .xor .u64 z x = Go.bits .xor .u64 z y) : x = y := by
  rw [xor_toNat, xor_toNat] at h
  have h2 : BitVec.ofInt 64 z ^^^ BitVec.ofInt 64 x = BitVec.ofInt 64 z ^^^ BitVec.ofInt 64 y := BitVec.eq_of_toNat_eq (by omega)
  exact ofInt_inj hx hy (by simpa [BitVec.xor_right_inj] using h2)

theorem mul_back {x y p i q M : Int} (hpi : p * i = 1 + q * M) (h : (x * p) % M = (y * p) % M) : x % M = y % M := by
  have h1 : M ∣ (x - y) * p := by rw [Int.sub_mul]; exact Int.dvd_of_emod_eq_zero (Int.emod_eq_emod_iff_emod_sub_eq_zero.1 h)
  have h2 : M ∣ (x - y) * p * i := Int.dvd_trans h1 (Int.dvd_mul_right _ _)
  have h3 : (x - y) * p * i = (x - y) + (x - y) * q * M := by rw [Int.mul_assoc, hpi, Int.mul_add, Int.mul_one, Int.mul_assoc]
  rw [h3] at h2
  have h4 : M ∣ x - y := (Int.dvd_add_left (Int.dvd_mul_left ((x - y) * q) M)).1 h2
  exact Int.emod_eq_emod_iff_emod_sub_eq_zero.2 (Int.emod_eq_zero_of_dvd h4)

theorem inv_prime : (1099511628211 : Int) * 14886173955864302971 = 1 + 887285111055 * 18446744073709551616 := by decide

theorem mul_inj {x y : Int} (hx : U64 x) (hy : U64 y) (h : IntKind.u64.wrap (x * 1099511628211) = IntKind.u64.wrap (y * 1099511628211)) : x = y := by
  rw [IntKind.wrap_u64, IntKind.wrap_u64] at h
  have h2 := mul_back inv_prime h
  rwa [Int.emod_eq_of_lt hx.1 hx.2, Int.emod_eq_of_lt hy.1 hy.2] at h2

theorem step_inj {h g x : Int} (hh : U64 h) (hg : U64 g) (e : step h x = step g x) : h = g :=
  xor_left_inj hh hg (mul_inj (bits_range _ _ _) (bits_range _ _ _) e)
theorem step_byte_inj {h x y : Int} (hx : U64 x) (hy : U64 y) (e : step h x = step h y) : x = y :=
  xor_right_inj hx hy (mul_inj (bits_range _ _ _) (bits_range _ _ _) e)

theorem run_inj {bs : List Int} : ∀ {h g : Int}, U64 h → U64 g → run h bs = run g bs → h = g := by
  induction bs with
  | nil => intro h g _ _ e; exact e
  | cons b bs ih => intro h g hh hg e; exact step_inj hh hg (ih (wrap_u64_range _) (wrap_u64_range _) e)

theorem start_inj {h g : Int} (hh : U64 h) (hg : U64 g) (e : start h = start g) : h = g := xor_left_inj hh hg e

theorem shift_bv {h : Int} (hh : U64 h) : BitVec.ofInt 64 (h / 536870912) = BitVec.ofInt 64 h >>> 29 := by
  have h1 := bv_of h hh
  have h2 := bv_of (h / 536870912) ⟨Int.ediv_nonneg hh.1 (by omega), by have := hh.2; omega⟩
  apply BitVec.eq_of_toNat_eq
  rw [BitVec.toNat_ushiftRight, Nat.shiftRight_eq_div_pow]
  have : (2 : Nat) ^ 29 = 536870912 := by decide
  rw [this]
  omega

theorem bv_mix (d : BitVec 64) (h : d = d >>> 29) : d = 0#64 := by
  have h2 : d = d >>> 29 >>> 29 >>> 29 := by rw [← h, ← h, ← h]
  rw [← BitVec.shiftRight_add, ← BitVec.shiftRight_add] at h2
  rw [h2]
  apply BitVec.eq_of_toNat_eq
  rw [BitVec.toNat_ushiftRight, Nat.shiftRight_eq_div_pow]
  have := d.isLt
  rw [Nat.div_eq_of_lt (by omega)]
  rfl

/-- The last mixing. -/
theorem fin_inj {h g : Int} (hh : U64 h) (hg : U64 g) (e : fin h = fin g) : h = g := by
  unfold fin at e
  rw [xor_toNat, xor_toNat, shift_bv hh, shift_bv hg] at e
  have e2 : BitVec.ofInt 64 h ^^^ BitVec.ofInt 64 h >>> 29 = BitVec.ofInt 64 g ^^^ BitVec.ofInt 64 g >>> 29 := BitVec.eq_of_toNat_eq (by omega)
  refine ofInt_inj hh hg ?_
  generalize BitVec.ofInt 64 h = a at *
  generalize BitVec.ofInt 64 g = b at *
  have e3 : a ^^^ b = (a ^^^ b) >>> 29 := by
    rw [BitVec.ushiftRight_xor_distrib]
    have : (a ^^^ a >>> 29) ^^^ (b ^^^ a >>> 29) = (b ^^^ b >>> 29) ^^^ (b ^^^ a >>> 29) := by rw [e2]
    have h1 : (a ^^^ a >>> 29) ^^^ (b ^^^ a >>> 29) = a ^^^ b := by
      rw [BitVec.xor_assoc, BitVec.xor_comm b, ← BitVec.xor_assoc (a >>> 29), BitVec.xor_self, BitVec.zero_xor]
    have h2 : (b ^^^ b >>> 29) ^^^ (b ^^^ a >>> 29) = a >>> 29 ^^^ b >>> 29 := by
      rw [BitVec.xor_comm b (b >>> 29), BitVec.xor_assoc, ← BitVec.xor_assoc b, BitVec.xor_self, BitVec.zero_xor, BitVec.xor_comm]
    rw [← h1, this, h2]
  have e4 := bv_mix _ e3
  have : a ^^^ b ^^^ b = 0#64 ^^^ b := by rw [e4]
  rwa [BitVec.xor_assoc, BitVec.xor_self, BitVec.xor_zero, BitVec.zero_xor] at this

theorem u64_start (key : Int) : U64 (start key) := bits_range _ _ _

/-- Unlike keys, unlike marks. -/
theorem mark_key {k g : Int} {bs : List Int} (hk : U64 k) (hg : U64 g) (e : mark k bs = mark g bs) : k = g :=
  start_inj hk hg (run_inj (u64_start _) (u64_start _) (fin_inj (run_range _ (u64_start _) _) (run_range _ (u64_start _) _) e))

/-- One byte another: another mark. -/
theorem mark_turn {k x y : Int} {bs cs : List Int} (hx : U64 x) (hy : U64 y) (e : mark k (bs ++ x :: cs) = mark k (bs ++ y :: cs)) : x = y := by
  have h := fin_inj (run_range _ (u64_start _) _) (run_range _ (u64_start _) _) e
  rw [run_app, run_app] at h
  exact step_byte_inj hx hy (run_inj (wrap_u64_range _) (wrap_u64_range _) h)

end Go.Proofs.Ytondcelapmbphaa.Tg
