/- Layer 2 (tag): what the program's Key, Of, Right and the reference's Key, Of come to, function by function. Conditions: the bytes lie in memory as said. -/
import Derived.Test.YtondcelapmbphaaProg
import Derived.Below
import Derived.WalkKit
import Derived.KernelRfl
import Derived.IntWalk
import Derived.Lib.Hide
import Derived.OneCell
import Derived.WalkSmall
import Derived.Lib.SlBytesConst
import Derived.Laws.BytesArg
namespace Go.Proofs.Ytondcelapmbphaa.Tg
open Go.RowKit
set_option linter.unusedVariables false

def step (h x : Int) : Int := IntKind.u64.wrap (Go.bits .xor .u64 h x * 1099511628211)
def start (key : Int) : Int := Go.bits .xor .u64 key 14695981039346656037
def fin (h : Int) : Int := Go.bits .xor .u64 h (h / 536870912)
def run (h : Int) (bs : List Int) : Int := bs.foldl step h
def mark (key : Int) (bs : List Int) : Int := fin (run (start key) bs)

def BytesAt (w : World) (a : Option Addr) (bs : List Int) : Prop :=
  bs.length ≤ 140737488351232 ∧ ∀ j, j < bs.length → ∃ b off, a = some ⟨b, off, none⟩ ∧ w.cell? ⟨b, off + j, none⟩ = some (.int .u8 (bs.getD j 0)) ∧ 0 ≤ bs.getD j 0 ∧ bs.getD j 0 ≤ 255

def PartsAt (w : World) (A : Option Addr) (pss : List (List Int)) : Prop :=
  pss.length ≤ 140737488351232 ∧ ∀ i, i < pss.length → ∃ b off a c, A = some ⟨b, off, none⟩ ∧ w.cell? ⟨b, off + i, none⟩ = some (.slice a (pss.getD i []).length c) ∧ BytesAt w a (pss.getD i [])

theorem take_step {α : Type} (l : List α) (i : Nat) (d : α) (h : i < l.length) : l.take (i + 1) = l.take i ++ [l.getD i d] := by
  rw [List.take_succ_eq_append_getElem h]
  simp [List.getD_eq_getElem?_getD, List.getElem?_eq_getElem h]

theorem run_snoc (h : Int) (bs : List Int) (x : Int) : run h (bs ++ [x]) = step (run h bs) x := by simp [run]
theorem run_app (h : Int) (cs bs : List Int) : run h (cs ++ bs) = run (run h cs) bs := by simp [run]

set_option maxHeartbeats 400000 in
theorem key_calls (n : Int) (w : World) : Calls Try.prog 15 #[.int .i64 n] w fun e w' =>
    e = .returned (.int .u64 (IntKind.u64.wrap (IntKind.u64.wrap (IntKind.u64.wrap n + 1) * 11400714819323198485))) ∧ w = w' := by
  go_enter Try.func15, Try.ntmps15
  go_wp2
  go_ret
  exact ⟨rfl, rfl⟩

set_option maxHeartbeats 1000000 in
theorem of_calls (key : Int) (A : Option Addr) (C : Nat) (pss : List (List Int)) (w : World) (hp : PartsAt w A pss) :
    Calls Try.prog 16 #[.int .u64 key, .slice A pss.length C] w fun e w' => e = .returned (.int .u64 (mark key pss.flatten)) ∧ w = w' := by
  obtain ⟨hl, hp⟩ := hp
  have HP := Lib.hid hp
  clear hp
  unfold mark
  have hs : Go.bits .xor .u64 key 14695981039346656037 = start key := rfl
  go_enter Try.func16, Try.ntmps16
  go_wp2
  go_loop [5, 14] (fun h i => ∃ (k : Nat) (g : Int), k ≤ pss.length ∧ i = .int .i64 k ∧ h = .int .u64 g ∧ Hid (g = run (start key) (pss.take k).flatten)) (fun _ i => pss.length - (intOf i).toNat)
  case atStart => exact ⟨0, _, by omega, rfl, rfl, rfl⟩
  case round =>
    obtain ⟨k, g, hk, rfl, rfl, hg⟩ := hrel
    by_cases hlt : k < pss.length
    · obtain ⟨b, off, a, c, rfl, hc, hb⟩ := HP.out k hlt
      obtain ⟨hbl, hb⟩ := hb
      have HB := Lib.hid hb
      have HN := Lib.hid (show run (start key) (pss.take (k + 1)).flatten = run (run (start key) (pss.take k).flatten) (pss.getD k []) by
        rw [take_step pss k [] hlt, List.flatten_append]; simp [run_app])
      clear hb
      generalize pss.getD k [] = bs at *
      go_wp2
      go_loop [5, 20] (fun h j => ∃ (m : Nat) (x : Int), m ≤ bs.length ∧ j = .int .i64 m ∧ h = .int .u64 x ∧ Hid (x = run g (bs.take m))) (fun _ j => bs.length - (intOf j).toNat)
      case atStart => exact ⟨0, _, by omega, rfl, rfl, rfl⟩
      case round =>
        obtain ⟨m, x, hm, rfl, rfl, hx⟩ := hrel
        by_cases hlm : m < bs.length
        · obtain ⟨b2, off2, rfl, hc2, l0, l1⟩ := HB.out m hlm
          have HX := Lib.hid (show step x (bs.getD m 0) = run g (bs.take (m + 1)) by rw [take_step bs m 0 hlm, run_snoc, ← hx.out])
          generalize bs.getD m 0 = y at *
          go_wp2
          go_round
          case rel => exact ⟨m + 1, _, by omega, by go_num, rfl, HX⟩
          case measure => simp [intOf]; omega
        · obtain rfl : m = bs.length := by omega
          go_wp2
          go_round
          case rel => exact ⟨k + 1, _, by omega, by go_num, rfl, by show _ = _; rw [HN.out, ← hg.out, hx.out, List.take_length]⟩
          case measure => simp [intOf]; omega
    · obtain rfl : k = pss.length := by omega
      go_wp2
      go_ret
      exact ⟨by have hg2 := hg.out; rw [List.take_length] at hg2; rw [← hg2]; rfl, rfl⟩

theorem wrap_u64_range (n : Int) : 0 ≤ IntKind.u64.wrap n ∧ IntKind.u64.wrap n < 18446744073709551616 := by rw [IntKind.wrap_u64]; omega
theorem bits_range (op : BinOp) (x y : Int) : 0 ≤ Go.bits op .u64 x y ∧ Go.bits op .u64 x y < 18446744073709551616 := by unfold Go.bits; exact wrap_u64_range _
theorem run_range (h : Int) (h0 : 0 ≤ h ∧ h < 18446744073709551616) : ∀ bs : List Int, 0 ≤ run h bs ∧ run h bs < 18446744073709551616
  | [] => h0
  | b :: bs => run_range (step h b) (wrap_u64_range _) bs

theorem ref_step (z : Int) : IntKind.u64.wrap (IntKind.u64.wrap (IntKind.u64.wrap (z * 1099511627776) + IntKind.u64.wrap (z * 256)) + IntKind.u64.wrap (z * 179)) = IntKind.u64.wrap (z * 1099511628211) := by
  simp only [IntKind.wrap_u64]
  omega

set_option maxHeartbeats 1000000 in
theorem refof_calls (key : Int) (a : Option Addr) (C : Nat) (bs : List Int) (w : World) (hb : BytesAt w a bs) :
    Calls Try.prog 19 #[.int .u64 key, .slice a bs.length C] w fun e w' => e = .returned (.int .u64 (mark key bs)) ∧ w = w' := by
  obtain ⟨hl, hb⟩ := hb
  have HB := Lib.hid hb
  clear hb
  unfold mark
  go_enter Try.func19, Try.ntmps19
  go_wp2
  go_loop [5, 6] (fun h i => ∃ (m : Nat) (x : Int), m ≤ bs.length ∧ i = .int .i64 m ∧ h = .int .u64 x ∧ Hid (x = run (start key) (bs.take m))) (fun _ i => bs.length - (intOf i).toNat)
  case atStart => exact ⟨0, _, by omega, rfl, rfl, rfl⟩
  case round =>
    obtain ⟨m, x, hm, rfl, rfl, hx⟩ := hrel
    by_cases hlm : m < bs.length
    · obtain ⟨b2, off2, rfl, hc2, l0, l1⟩ := HB.out m hlm
      have HX := Lib.hid (show step x (bs.getD m 0) = run (start key) (bs.take (m + 1)) by rw [take_step bs m 0 hlm, run_snoc, ← hx.out])
      generalize bs.getD m 0 = y at *
      go_wp2
      go_round
      case rel => exact ⟨m + 1, _, by omega, by go_num, rfl, by show _ = _; rw [← HX.out]; unfold step; rw [← ref_step]⟩
      case measure => simp [intOf]; omega
    · obtain rfl : m = bs.length := by omega
      go_wp2
      go_ret
      have hg2 := hx.out
      rw [List.take_length] at hg2
      have hr := run_range (start key) (bits_range _ _ _) bs
      rw [← hg2] at hr ⊢
      refine ⟨?_, rfl⟩
      unfold fin
      rw [← IntWalk.u64_quo x 536870912 ⟨hr.1, by omega, by omega⟩]
      rfl

theorem BytesAt.keep {w w' : World} {B : Nat} {a : Option Addr} {bs : List Int} (h : BytesAt w a bs) (hb : Below B w w') (hB : ∀ x, a = some x → x.block < B) : BytesAt w' a bs := by
  refine ⟨h.1, fun j hj => ?_⟩
  obtain ⟨b, off, rfl, hc, r⟩ := h.2 j hj
  exact ⟨b, off, rfl, (hb.cell (p := ⟨b, off + j, none⟩) (hB ⟨b, off, none⟩ rfl)).trans hc, r⟩

theorem BytesAt.lt {w : World} {a : Option Addr} {bs : List Int} (h : BytesAt w a bs) (hj : 0 < bs.length) : ∀ x, a = some x → x.block < w.heap.size := by
  obtain ⟨b, off, rfl, hc, _⟩ := h.2 0 hj
  rintro x hx
  cases hx
  rcases Nat.lt_or_ge b w.heap.size with h' | h'
  · exact h'
  · simp [World.cell?, Array.getElem?_eq_none h'] at hc

/-- What lies in bytes stays where nothing below the heap's end has turned. -/
theorem BytesAt.below {w w' : World} {a : Option Addr} {bs : List Int} (h : BytesAt w a bs) (hb : Below w.heap.size w w') : BytesAt w' a bs := by
  by_cases hj : 0 < bs.length
  · exact h.keep hb (h.lt hj)
  · exact ⟨h.1, fun j hj2 => by omega⟩

theorem heap_new (w : World) (o : Obj) : (w.alloc o).heap[w.heap.size]? = some o := by
  show (w.heap.push o)[w.heap.size]? = some o
  simp

theorem cell_new {w : World} {cs : Array Value} {t : TypeId} {fr : Nat × Nat} {i : Nat} {v : Value} (h : cs[i]? = some v) : (w.alloc (.cells cs t fr)).cell? ⟨w.heap.size, i, none⟩ = some v := by
  unfold World.cell?
  show (match (w.alloc (.cells cs t fr)).heap[w.heap.size]? with | some (.cells c _ _) => c[i]? | _ => none) = some v
  rw [heap_new]
  exact h

/-- One part alone: a new row of one slice. -/
theorem one_part {w : World} {a : Option Addr} {c : Nat} {bs : List Int} {fr : Nat × Nat} {t : TypeId} (h : BytesAt w a bs) : PartsAt (w.alloc (.cells #[.slice a bs.length c] t fr)) (some ⟨w.heap.size, 0, none⟩) [bs] := by
  refine ⟨by simp, fun i hi => ?_⟩
  obtain rfl : i = 0 := by simp at hi; omega
  exact ⟨w.heap.size, 0, a, c, rfl, cell_new (by simp), h.below ((Below.refl _ _).alloc (Nat.le_refl _) _)⟩

set_option maxHeartbeats 400000 in
theorem right_calls (key m : Int) (a : Option Addr) (C : Nat) (bs : List Int) (w : World) (hb : BytesAt w a bs) :
    Calls Try.prog 17 #[.int .u64 key, .int .u64 m, .slice a bs.length C] w fun e w' => e = .returned (.bool (mark key bs == m)) ∧ Below w.heap.size w w' := by
  have P := fun t fr => of_calls key (some ⟨w.heap.size, 0, none⟩) 1 [bs] _ (one_part (c := C) (t := t) (fr := fr) hb)
  rw [show [bs].flatten = bs by simp] at P
  have HP := Lib.hid P
  clear P hb
  go_enter Try.func17, Try.ntmps17
  go_wp2_with fail
  refine (HP.out _ _).mono ?_; rintro e w' ⟨rfl, rfl⟩
  go_wp2_with fail
  go_ret
  exact ⟨rfl, (Below.refl _ _).alloc (Nat.le_refl _) _⟩

theorem one_byte {w : World} {x : Int} {fr : Nat × Nat} {t : TypeId} (h0 : 0 ≤ x) (h1 : x ≤ 255) : BytesAt (w.alloc (.cells #[.int .u8 x] t fr)) (some ⟨w.heap.size, 0, none⟩) [x] := by
  refine ⟨by simp, fun i hi => ?_⟩
  obtain rfl : i = 0 := by simp at hi; omega
  exact ⟨w.heap.size, 0, rfl, cell_new (by simp), by simpa using h0, by simpa using h1⟩

set_option maxHeartbeats 1000000 in
theorem names_calls (w : World) : Calls Try.prog 3 #[] w fun e w' => e = .returned (.bool true) ∧ Below w.heap.size w w' := by
  have K : ∀ w, Calls Try.prog 15 #[.int .i64 0] w fun e w' => e = .returned (.int .u64 11400714819323198485) ∧ w = w' := fun w => (key_calls 0 w).mono fun _ _ ⟨h, hw⟩ => ⟨h.trans (by kernel_rfl), hw⟩
  have O0 : ∀ w, Calls Try.prog 16 #[.int .u64 0, .slice none 0 0] w fun e w' => e = .returned (.int .u64 14695981032226079745) ∧ w = w' :=
    fun w => (of_calls 0 none 0 [] w ⟨by simp, fun i hi => by simp at hi⟩).mono fun _ _ ⟨h, hw⟩ => ⟨h.trans (by kernel_rfl), hw⟩
  have O1 : ∀ (w : World) t1 t2 f1 f2, Calls Try.prog 16 #[.int .u64 5, .slice (some ⟨w.heap.size + 1, 0, none⟩) 1 1] ((w.alloc (.cells #[.int .u8 120] t1 f1)).alloc (.cells #[.slice (some ⟨w.heap.size, 0, none⟩) 1 1] t2 f2)) fun e w' => e = .returned (.int .u64 (mark 5 [120])) ∧ Below w.heap.size w w' := by
    intro w t1 t2 f1 f2
    have h := of_calls 5 _ 1 [[120]] _ (one_part (c := 1) (t := t2) (fr := f2) (one_byte (w := w) (x := 120) (fr := f1) (t := t1) (by omega) (by omega)))
    have h2 : Calls Try.prog 16 #[.int .u64 5, .slice (some ⟨w.heap.size + 1, 0, none⟩) 1 1] ((w.alloc (.cells #[.int .u8 120] t1 f1)).alloc (.cells #[.slice (some ⟨w.heap.size, 0, none⟩) 1 1] t2 f2)) fun e w' => e = .returned (.int .u64 (mark 5 [120])) ∧ ((w.alloc (.cells #[.int .u8 120] t1 f1)).alloc (.cells #[.slice (some ⟨w.heap.size, 0, none⟩) 1 1] t2 f2)) = w' := by simpa using h
    refine h2.mono fun _ _ ⟨he, hw⟩ => ⟨he, ?_⟩
    subst hw
    exact ((Below.refl _ _).alloc (Nat.le_refl _) _).alloc (by simp) _
  have R1 : ∀ (w : World) t f m, Calls Try.prog 17 #[.int .u64 5, .int .u64 m, .slice (some ⟨w.heap.size, 0, none⟩) 1 1] (w.alloc (.cells #[.int .u8 120] t f)) fun e w' => e = .returned (.bool (mark 5 [120] == m)) ∧ Below w.heap.size w w' := by
    intro w t f m
    have h := right_calls 5 m _ 1 [120] _ (one_byte (w := w) (x := 120) (fr := f) (t := t) (by omega) (by omega))
    refine h.mono fun _ _ ⟨he, hb⟩ => ⟨he, ?_⟩
    exact ((Below.refl _ _).alloc (Nat.le_refl _) _).trans (hb.mono (by simp))
  generalize mark 5 [120] = M at *
  have kc := fun (w : World) (C : Array Value) (n c : Nat) => Lib.run_convert_bytes_const (P := Try.prog) w 26 5 C n c Try.underlying26 Try.underlying5
  have k := Lib.hid K
  have o0 := Lib.hid O0
  have o1 := Lib.hid O1
  have r1 := Lib.hid R1
  clear K O0 O1 R1
  have hM : (M == M) = true := by simp
  go_enter Try.func3, Try.ntmps3
  go_wp2_with fail
  refine (k.out _).mono ?_; rintro e w' ⟨rfl, rfl⟩
  go_wp2_with fail
  refine (o0.out _).mono ?_; rintro e w' ⟨rfl, rfl⟩
  go_wp2_with fail
  refine (o1.out _ _ _ _ _).mono ?_; rintro e w2 ⟨rfl, hb⟩
  have HB := Lib.hid hb
  clear hb
  go_wp2_with fail
  refine (r1.out _ _ _ _).mono ?_; rintro e w3 ⟨rfl, hb⟩
  have HC := Lib.hid (HB.out.trans (hb.mono HB.out.size))
  clear hb
  go_wp2_with fail
  go_ret
  exact ⟨by simp, HC.out⟩

end Go.Proofs.Ytondcelapmbphaa.Tg
