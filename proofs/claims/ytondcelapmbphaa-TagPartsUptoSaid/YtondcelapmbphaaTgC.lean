/- Layer 2 (tag): the statement TagMarks' own walk. Conditions: the slice takes at most 2^47 - 4096 bytes (the row's reach). -/
import Derived.Test.YtondcelapmbphaaOwn
import Derived.Test.YtondcelapmbphaaOpen
namespace Go.Proofs.Ytondcelapmbphaa.Tg
open Go.RowKit
set_option linter.unusedVariables false

theorem u8_bounds {n : Int} (h : (Lit.int .u8 n).wf = true) : 0 ≤ n ∧ n ≤ 255 := by
  simp [Lit.wf, IntKind.min, IntKind.max, IntKind.signed, IntKind.bits] at h
  omega

theorem row_bytes {W : World} {a : Option Addr} {len cap : Nat} {zs : List Int} (h : IsRow .u8 W a len cap zs) (hl : len * 1 ≤ 140737488351232) : ∃ bs : List Int, bs.length = len ∧ BytesAt W a bs := by
  rcases h with ⟨rfl, rfl, rfl, rfl⟩ | ⟨x, rfl, hlc, hcm, hz, hcell, hwf⟩
  · exact ⟨[], rfl, by simp, fun j hj => by simp at hj⟩
  · refine ⟨zs.take len, by simp; omega, by simp; omega, fun j hj => ?_⟩
    have hj2 : j < len := by simp at hj; omega
    obtain ⟨b, off, rfl, hc⟩ := ints_at hcell (by omega)
    have e : (zs.take len).getD j 0 = zs.getD j 0 := by simp [List.getD_eq_getElem?_getD, List.getElem?_take_of_lt hj2]
    refine ⟨b, off, rfl, ?_, ?_⟩
    · rw [e]; exact hc j (by omega)
    · rw [e]; exact u8_bounds (hwf _ (getD_mem zs j (by omega)))

theorem bool_eq_eq (a b : Int) : ((a == b) == (b == a)) = true := by
  by_cases h : a = b
  · subst h; simp
  · have h1 : (a == b) = false := by simpa using h
    have h2 : (b == a) = false := by simpa using fun e => h e.symm
    rw [h1, h2]; rfl

set_option maxHeartbeats 1000000 in
theorem tagMarks_core (key m : Int) (a : Option Addr) (cap : Nat) (bs : List Int) (w : World) (hb : BytesAt w a bs) :
    Calls Try.prog 5 #[.int .u64 key, .int .u64 m, .slice a bs.length cap] w fun e w' => e = .returned (.bool true) ∧ Below w.heap.size w w' := by
  have hl := hb.1
  have hB0 : Below w.heap.size w (w.alloc (.cells #[] 5)) := (Below.refl _ _).alloc (Nat.le_refl _) _
  obtain ⟨v1, w1, hrun, hown, hB1⟩ := app (w.alloc (.cells #[] 5)) w.heap.size _ [] bs a cap (Own.empty w) (hb.below hB0) (by simpa using hl) 26
  obtain ⟨A, C, rfl, hA, _⟩ := hown.reads
  rw [List.nil_append] at hrun hA
  have hb1 : Below w.heap.size w w1 := hB0.trans hB1
  have R := refof_calls key a cap bs w1 (hb.below hb1)
  have S := fun (w2 : World) (h : Below w1.heap.size w1 w2) t fr => of_calls key (some ⟨w2.heap.size, 0, none⟩) 1 [bs] _ (one_part (c := C) (t := t) (fr := fr) (hA.below h))
  rw [show [bs].flatten = bs by simp] at S
  have T := fun (w2 : World) (h : Below w1.heap.size w1 w2) => right_calls key m A C bs w2 (hA.below h)
  have CA := fun (w2 : World) (h : Below w1.heap.size w1 w2) => conv w2 A C bs (hA.below h)
  have CB := fun (w2 : World) (h : Below w1.heap.size w1 w2) => conv w2 a cap bs (hb.below (hb1.trans (h.mono hb1.size)))
  generalize mark key bs = M at *
  have hap := Lib.hid hrun
  clear hrun
  have hr := Lib.hid R
  have hs := Lib.hid S
  have ht := Lib.hid T
  have ha := Lib.hid CA
  have hc := Lib.hid CB
  have hbb := Lib.hid hb1
  have hee := bool_eq_eq M m
  clear R S T CA CB hb1 hB1 hB0 hb hA hown
  have hMM : (M == M) = true := by simp
  go_enter Try.func5, Try.ntmps5
  go_wp2_with (at_builtin; refine step_append (by rfl) _ _ 26 rfl hap.out ?_)
  refine hr.out.mono ?_; rintro e w' ⟨rfl, rfl⟩
  go_wp2_with fail
  refine (names_calls _).mono ?_; rintro e w2 ⟨rfl, h2⟩
  have H2 := Lib.hid h2
  clear h2
  go_wp2_with fail
  refine (hs.out _ H2.out _ _).mono ?_; rintro e w' ⟨rfl, rfl⟩
  go_wp2_with fail
  refine (ht.out _ (H2.out.alloc H2.out.size _)).mono ?_; rintro e w3 ⟨rfl, h3⟩
  have H3 := Lib.hid ((H2.out.alloc H2.out.size _).trans (h3.mono (Nat.le_trans H2.out.size (by simp))))
  clear h3
  have e1 := ha.out w3 H3.out
  have e2 := hc.out w3 H3.out
  go_wp2_with fail
  go_ret
  exact ⟨by simp, hbb.out.trans (H3.out.mono hbb.out.size)⟩

theorem tagMarks_walk (key m : Int) (a : Option Addr) (len cap : Nat) (zs : List Int) (_ : (Lit.int .u64 key).wf = true) (_ : (Lit.int .u64 m).wf = true) {w : World} (h : IsRow .u8 w a len cap zs) (hl : len * 1 ≤ 140737488351232) :
    Calls Try.prog 5 #[.int .u64 key, .int .u64 m, .slice a len cap] w fun e w' => e = .returned (.bool true) ∧ Below w.heap.size w w' := by
  obtain ⟨bs, rfl, hb⟩ := row_bytes h hl
  exact tagMarks_core key m a cap bs w hb

end Go.Proofs.Ytondcelapmbphaa.Tg
