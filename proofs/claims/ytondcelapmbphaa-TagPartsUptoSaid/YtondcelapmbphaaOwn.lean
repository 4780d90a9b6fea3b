/- Bytes that a call made itself: appended to, read, turned into a string. Conditions: the lengths are within what memory holds. -/
import Derived.Test.YtondcelapmbphaaTg
import Derived.Deep.AppendSrc
import Derived.Laws.AppendOwn
import Derived.Laws.BytesString
import Derived.RowKit3
namespace Go.Proofs.Ytondcelapmbphaa.Tg
open Go.RowKit
set_option linter.unusedVariables false

theorem info5 : (Try.prog.info? 5).map (fun i => (i.zero, i.size, i.bytes)) = some (some (.int .u8 0), 1, 1) := by kernel_rfl

def bytes (bs : List Int) : List Value := bs.map (Value.int .u8)

/-- A slice of bytes of the call's own, with an address. -/
structure Own (w : World) (B : Nat) (v : Value) (bs : List Int) : Prop where
  row : w.ownsRow B 5 1 v bs.length (bytes bs)
  addr : ∃ g c, v = .slice (some ⟨g, 0, none⟩) bs.length c
  range : ∀ x ∈ bs, 0 ≤ x ∧ x ≤ 255
  len : bs.length ≤ 140737488351232
  base : B ≤ w.heap.size

theorem Own.empty (w : World) : Own (w.alloc (.cells #[] 5)) w.heap.size (.slice (some ⟨w.heap.size, 0, none⟩) 0 0) [] :=
  ⟨World.ownsRow_made w #[] 0 (Nat.le_refl _) (by unfold maxLen; omega) rfl, ⟨_, _, rfl⟩, by simp, by simp, by simp⟩

theorem getD_mem (bs : List Int) (j : Nat) (h : j < bs.length) : bs.getD j 0 ∈ bs := by
  simp [List.getD_eq_getElem?_getD, List.getElem?_eq_getElem h]

theorem Own.reads {w : World} {B : Nat} {v : Value} {bs : List Int} (h : Own w B v bs) : ∃ A C, v = .slice A bs.length C ∧ BytesAt w A bs ∧ ∀ x, A = some x → B ≤ x.block ∧ x.block < w.heap.size := by
  obtain ⟨⟨_, h2⟩, ⟨g0, c0, hv0⟩, hr, hl, _⟩ := h
  rcases h2 with ⟨hv, _⟩ | ⟨g, cap, cur, hv, hg, hh, hn, hcap, hsz, htake⟩
  · rw [hv0] at hv; cases hv
  · refine ⟨_, _, hv, ⟨hl, fun j hj => ⟨g, 0, rfl, ?_, hr _ (getD_mem bs j hj)⟩⟩, ?_⟩
    · have e : (bytes bs)[j]? = some (.int .u8 (bs.getD j 0)) := by simp [bytes, List.getElem?_eq_getElem hj, List.getD_eq_getElem?_getD]
      rw [← htake, List.getElem?_take_of_lt (by omega)] at e
      rw [Array.getElem?_toList] at e
      simpa [World.cell?, hh, List.getD_eq_getElem?_getD] using e
    · rintro x hx
      cases hx
      exact ⟨hg, lt_of_block hh⟩

theorem grown_below {w w' : World} {B : Nat} {row : Option Nat} (h : w.grownBy w' row) (hr : ∀ k, row = some k → B ≤ k) (hB : B ≤ w.heap.size) : Below B w w' :=
  ⟨h.os, h.tape, h.output, h.size, fun k hk => h.block k (by omega) (fun e => by have := hr k e.symm; omega)⟩

theorem mem_bytes {bs : List Int} {u : Value} (h : u ∈ bytes bs) : u.oneCell' = true := by
  obtain ⟨_, _, rfl⟩ := List.mem_map.1 h
  rfl

set_option maxHeartbeats 400000 in
/-- 'append(v, b...)' on bytes of the call's own. -/
theorem app (w : World) (B : Nat) (v : Value) (bs cs : List Int) (a : Option Addr) (c : Nat) (h : Own w B v bs) (hb : BytesAt w a cs) (hl : bs.length + cs.length ≤ 140737488351232) (ty : TypeId) :
    ∃ v' w', (Builtin.append_ #[26, 26] ty #[v, .slice a cs.length c]).run Try.prog w = .ok v' w' ∧ Own w' B v' (bs ++ cs) ∧ Below B w w' := by
  obtain ⟨i0, hi, hz0, hz1, hz2⟩ := info_parts info5
  obtain ⟨hrow, haddr, hr, hlen, hbase⟩ := h
  have hrange : ∀ x ∈ bs ++ cs, 0 ≤ x ∧ x ≤ 255 := by
    intro x hx
    rcases List.mem_append.1 hx with hx | hx
    · exact hr x hx
    · obtain ⟨j, hj, rfl⟩ := List.mem_iff_getElem.1 hx
      obtain ⟨_, _, _, _, l⟩ := hb.2 j hj
      simpa [List.getD_eq_getElem?_getD, List.getElem?_eq_getElem hj] using l
  by_cases hc : cs.length = 0
  · obtain rfl : cs = [] := List.length_eq_zero_iff.1 hc
    obtain ⟨g, c0, rfl⟩ := haddr
    have hroom : bs.length + 0 ≤ c0 := by
      rcases hrow.2 with ⟨hv, _⟩ | ⟨g', cap, cur, hv, _, _, hn, _, _, _⟩
      · cases hv
      · cases hv; omega
    refine ⟨.slice (some ⟨g, 0, none⟩) bs.length c0, w, ?_, ⟨by simpa using hrow, ⟨g, c0, by simp⟩, hrange, by simpa using hl, hbase⟩, Below.refl _ _⟩
    cases a with
    | none =>
      have := run_append_room_src (P := Try.prog) w 26 26 ty 5 i0 Try.underlying26 hi g 0 bs.length c0 (.slice none 0 c) 0 [] (Src.ofNil w Try.underlying26 c) hroom (by simp) (by simp)
      simpa [World.setCells] using this
    | some x =>
      have := run_append_room_src (P := Try.prog) w 26 26 ty 5 i0 Try.underlying26 hi g 0 bs.length c0 (.slice (some x) 0 c) 0 [] (Src.ofSlice w Try.underlying26 x 0 c [] (by simp) (by simp) (by simp)) hroom (by simp) (by simp)
      simpa [World.setCells] using this
  · obtain ⟨b, off, rfl, _⟩ := hb.2 0 (by omega)
    have hnews : ∀ j u, (bytes cs)[j]? = some u → w.cell? ((⟨b, off, none⟩ : Addr).add j) = some u := by
      intro j u hj
      have hjl : j < cs.length := by
        rcases Nat.lt_or_ge j cs.length with h | h
        · exact h
        · simp [bytes, List.getElem?_eq_none h] at hj
      obtain ⟨b2, off2, e, hcell, _⟩ := hb.2 j hjl
      cases e
      rw [Go.WideShapes.add_plain, hcell]
      simp [bytes, List.getElem?_eq_getElem hjl] at hj
      simp [← hj, List.getD_eq_getElem?_getD, List.getElem?_eq_getElem hjl]
    obtain ⟨v', w', hrun, hown, hgrow, hnil⟩ := run_append_own (P := Try.prog) w B 26 ty 5 i0 (.int .u8 0) 1 1 Try.underlying26 hi hz0 hz1 hz2 rfl (by decide) v bs.length (bytes bs) hrow ⟨b, off, none⟩ cs.length c (bytes cs) (by simp [bytes]) hnews
      (fun u hu => mem_bytes hu) (by unfold maxLen; omega) (by omega) hbase
    have hkey : bytes bs ++ bytes cs = bytes (bs ++ cs) := by simp [bytes]
    rw [hkey, show bs.length + cs.length = (bs ++ cs).length by simp] at hown
    refine ⟨v', w', hrun, ⟨hown, ?_, hrange, by simpa using hl, Nat.le_trans hbase hgrow.size⟩, grown_below hgrow (fun k hk => (hrow.lt k hk).1) hbase⟩
    rcases hown.2 with ⟨_, hn⟩ | ⟨g, cap, cur, hv, _⟩
    · rw [List.length_append] at hn; omega
    · exact ⟨g, cap, hv⟩

/-- An append whose run is known, met in a walk. -/
theorem step_append {P : Program} {ops : Array Oper} {rest : List Oper} {o : Oper} {a : Act} {Q : Exit → Act → World → Prop} {w w' : World} {v' : Value} (hgd : Region.wanted o (yielded ops a.tmps) = true) (s x : Operand) (t : TypeId)
    (ho : o.op = .call { callee := .builtin .append, args := #[s, x], argTypes := #[t, t] }) (hrun : (Builtin.append_ #[t, t] o.type #[a.eval s, a.eval x]).run P w = .ok v' w')
    (h : wpList P ops Q rest (a.put o.dst v') w') : wpList P ops Q (o :: rest) a w :=
  wpList_step fun K hK => by
    simp only [hgd, if_true]
    unfold Oper.wp execOp
    simp only [ho, resolve, invoke, builtin, Sem.run_bind, Sem.run_pure, Result.andThen_ok, List.map_toArray, List.map_cons, List.map_nil, hrun]
    exact hK _ _ h

/-- 'string(b)'. -/
theorem conv (w : World) (a : Option Addr) (c : Nat) (bs : List Int) (h : BytesAt w a bs) : (convert 26 9 (.slice a bs.length c)).run Try.prog w = .ok (.string (strOfNums bs)) w := by
  by_cases hc : bs.length = 0
  · obtain rfl : bs = [] := List.length_eq_zero_iff.1 hc
    rw [run_convert_bytes_string w 26 9 5 a _ c Try.underlying26 Try.underlying5 Try.underlying9]
    cases a with
    | none => rfl
    | some x =>
      have hl : (loadCells x 0).run Try.prog w = .ok #[] w := by
        have := run_loadCells_list (P := Try.prog) w x [] (fun j v hj => by simp at hj)
        simpa using this
      show (Conv.bytesToString (.slice (some x) 0 c)).run Try.prog w = _
      rw [run_bytesToString w x 0 c [] (by simpa using hl)]
      rfl
  · obtain ⟨b, off, rfl, _⟩ := h.2 0 (by omega)
    exact run_convert_bytes_arg w 26 5 Try.underlying26 Try.underlying5 b off bs.length c bs rfl (fun j hj => by obtain ⟨b2, o2, e, hc, _⟩ := h.2 j hj; cases e; exact hc) 9 Try.underlying9

end Go.Proofs.Ytondcelapmbphaa.Tg
