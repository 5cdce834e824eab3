/- The walks of wire.Command and of the document's Command. -/
import Derived.Test.YtbdfjiobegadjaaDoorSWriter
namespace Go.Proofs.YtbdfjiobegadjaaDoor.Wr
open Go Go.RowKit Go.Proofs.YtbdfjiobegadjaaDoor.Tk Go.Proofs.YtbdfjiobegadjaaDoor.PWireMemory Go.Proofs.YtbdfjiobegadjaaDoorW.PrintWords Go.Proofs.YtbdfjiobegadjaaDoorW.PrintLast Go.Proofs.YtbdfjiobegadjaaDoorW.PrintMore
set_option linter.unusedVariables false
set_option linter.unusedSectionVars false
set_option linter.unusedSimpArgs false
/-- The refusal of these words, or none. -/
def cmdE (l : List ByteArray) : Option Nat := if l.length = 0 then some 0 else if 16 < l.length then some 2 else if l.any (fun s => 65536 < s.size) then some 2 else none
/-- A command's bytes. -/
def cmdB (l : List ByteArray) : List UInt8 := (42 :: (Lib.itoa l.length ++ [13, 10])) ++ l.flatMap bulkB
def cmdV (ad : Nat → Addr) (l : List ByteArray) : Value := match cmdE l with
  | some k => .tuple #[.string ⟨#[]⟩, ev ad k]
  | none => .tuple #[.string ⟨(cmdB l).toArray⟩, .nilIface]
def cmdR (l : List ByteArray) : Value := match cmdE l with
  | some k => .tuple #[.string ⟨#[]⟩, .int .i64 ((k : Int) + 1)]
  | none => .tuple #[.string ⟨(cmdB l).toArray⟩, .int .i64 0]
theorem at_S {w : World} {A : Option Addr} {n : Nat} {l : List ByteArray} (h : Kd.string.C w A n l) (i : Nat) (hi : i < n) : ∃ a, A = some a ∧ w.cell? (a.add i) = some (.string (l.getD i ⟨#[]⟩)) := by
  obtain ⟨a, c, hA, hl, hK, hc⟩ := Kd.C_get h ⟨#[]⟩ (i : Int) (by omega) (by omega)
  refine ⟨a, hA, ?_⟩
  have hc0 : ∀ j u, c[j]? = some u → w.cell? (a.add (i * 1 + j)) = some u := fun j u hu => hc j u hu
  obtain rfl : c = [.string (l.getD i ⟨#[]⟩)] := by simpa [Kd.string, Kd.scalar] using hK
  simpa using hc0 0 _ rfl
theorem bulkB_len (s : ByteArray) (h : s.size ≤ 65536) : (bulkB s).length ≤ 65600 := by
  have hln := Lib.itoa_length_le (s.size : Int) (by omega) (by omega)
  unfold bulkB
  have hs : s.data.toList.length = s.size := by simp
  simp only [List.length_append, List.length_cons, List.length_nil, hs]
  omega
theorem pre_len (l : List ByteArray) : ∀ i, i ≤ l.length → (∀ j, j < i → (l.getD j ⟨#[]⟩).size ≤ 65536) → ((l.take i).flatMap bulkB).length ≤ i * 65600
  | 0, _, _ => by simp
  | i + 1, hi, h => by
    have := pre_len l i (by omega) (fun j hj => h j (by omega))
    have h1 := h i (by omega)
    rw [List.getD_eq_getElem?_getD, List.getElem?_eq_getElem (by omega)] at h1
    have h2 := bulkB_len (l[i]'(by omega)) h1
    rw [List.take_succ_eq_append_getElem (by omega), List.flatMap_append, List.length_append, List.flatMap_cons, List.flatMap_nil, List.append_nil]
    omega
theorem take_snoc (l : List ByteArray) (i : Nat) (hi : i < l.length) : (l.take (i + 1)).flatMap bulkB = (l.take i).flatMap bulkB ++ bulkB (l.getD i ⟨#[]⟩) := by
  rw [List.take_succ_eq_append_getElem hi, List.flatMap_append, List.getD_eq_getElem?_getD, List.getElem?_eq_getElem hi]
  simp
theorem cmdE_big {l : List ByteArray} {i : Nat} (h0 : l.length ≠ 0) (h16 : l.length ≤ 16) (hi : i < l.length) (hb : 65536 < (l.getD i ⟨#[]⟩).size) : cmdE l = some 2 := by
  unfold cmdE
  rw [if_neg h0, if_neg (by omega), if_pos]
  rw [List.any_eq_true]
  rw [List.getD_eq_getElem?_getD, List.getElem?_eq_getElem hi] at hb
  exact ⟨l[i], List.getElem_mem hi, by simpa using hb⟩
theorem cmdE_none {l : List ByteArray} (h0 : l.length ≠ 0) (h16 : l.length ≤ 16) (hs : ∀ j, j < l.length → (l.getD j ⟨#[]⟩).size ≤ 65536) : cmdE l = none := by
  unfold cmdE
  rw [if_neg h0, if_neg (by omega), if_neg]
  intro h
  rw [List.any_eq_true] at h
  obtain ⟨s, hm, hb⟩ := h
  obtain ⟨i, hi, rfl⟩ := List.mem_iff_getElem.1 hm
  have := hs i hi
  rw [List.getD_eq_getElem?_getD, List.getElem?_eq_getElem hi] at this
  simp at hb this
  omega
theorem errs_below {W W' : World} {ad : Nat → Addr} (h : Errs W ad) (hb : Below W.heap.size W W') : Errs W' ad := by
  have hlow : 3 ≤ W.heap.size := by
    have := h.cell 2 (by omega)
    by_cases hl : 3 ≤ W.heap.size
    · exact hl
    · exfalso
      simp only [World.cell?] at this
      rw [Array.getElem?_eq_none (by omega)] at this
      cases this
  exact ((EN.mk h hlow (fun i hi => by obtain ⟨c, t, hb⟩ := h.blk i hi; exact blk_lt hb)).below hb).errs
structure CmdOk (v : Value) (W : World) (e : Ending) (W' : World) : Prop where
  end_ : e = .returned v
  below : Below W.heap.size W W'
theorem num42 (B b : Nat) (n : Int) (W : World) (hT : Tab B W) (h : Wb B b [] W) (h0 : -9223372036854775808 ≤ n) (h1 : n ≤ 9223372036854775807) (hB : B ≤ W.heap.size) :
    Calls Tryd.prog 40 #[.pointer (some ⟨b, 0, none⟩), .int .u8 42, .int .i64 n] W (WOk B b (42 :: (Lib.itoa n ++ [13, 10])) W) := number_any B b [] 42 n W hT h h0 h1 (by simp) hB
set_option maxHeartbeats 2000000 in
theorem command_any (W : World) (ad : Nat → Addr) (hE : Errs W ad) (hT : Tab W.heap.size W) (A : Option Addr) (l : List ByteArray) (c : Nat) (hA : Kd.string.C W A l.length l) :
    Calls Tryd.prog 22 #[.slice A l.length c] W (CmdOk (cmdV ad l) W) := by
  have HE := Aside0.mk hE
  have HT := Lib.hid hT
  have HA := Aside0.mk hA
  have hm := Kd.C_max hA
  have c0 := hE.cell 0 (by omega)
  have c2 := hE.cell 2 (by omega)
  clear hE hT hA
  by_cases h0 : l.length = 0
  · have HV := Aside0.mk (show cmdV ad l = .tuple #[.string ⟨#[]⟩, ev ad 0] by unfold cmdV cmdE; rw [if_pos h0])
    have h0i : ((l.length : Int) == 0) = true := by rw [h0]; rfl
    clear h0
    go_enter Tryd.func22, Tryd.ntmps22
    go_wp2_with fail
    go_quiet (fail)
    go_wp2_with fail
    exact bodyPost_ret (v := .tuple #[.string ⟨#[]⟩, ev ad 0]) (by simp [results, Tryd.results22, go_sem]) rfl ⟨by rw [HV.out], pw_below_drewN (Below.refl _ _) _⟩
  · have h0i : ((l.length : Int) == 0) = false := by rw [beq_eq_false_iff_ne]; omega
    by_cases h16 : 16 < l.length
    · have HV := Aside0.mk (show cmdV ad l = .tuple #[.string ⟨#[]⟩, ev ad 2] by unfold cmdV cmdE; rw [if_neg h0, if_pos h16])
      have h16i : (16 : Int) < (l.length : Int) := by omega
      clear h0 h16
      go_enter Tryd.func22, Tryd.ntmps22
      go_wp2_with fail
      go_quiet (fail)
      go_wp2_with fail
      exact bodyPost_ret (v := .tuple #[.string ⟨#[]⟩, ev ad 2]) (by simp [results, Tryd.results22, go_sem]) rfl ⟨by rw [HV.out], pw_below_drewN (Below.refl _ _) _⟩
    · have h16i : ¬ (16 : Int) < (l.length : Int) := by omega
      have HF := Aside0.mk (Lib.fresh_isBuilder 102 5 W)
      go_enter Tryd.func22, Tryd.ntmps22
      go_wp2_with fail
      refine (num42 W.heap.size W.heap.size l.length _ (by exact HT.out.step ((Below.refl _ _).alloc (Nat.le_refl _) _)) (by exact HF.out) (by omega) (by omega) (by simp)).mono ?_
      rintro e w1 ⟨rfl, ha1, hb1⟩
      have HA1 := Aside0.mk ha1
      have HB1 := Aside0.mk ((below_alloc (Below.refl W.heap.size W) (.cells #[.pointer none, .slice none 0 0] 102)).trans hb1)
      clear ha1 hb1
      go_wp2_with fail
      go_loopw [20, 6] (fun v20 _ W' => ∃ i : Nat, v20 = .int .i64 i ∧ i ≤ l.length ∧ (∀ j, j < i → (l.getD j ⟨#[]⟩).size ≤ 65536) ∧ Aside0 (Below W.heap.size W W') ∧
        Aside0 (Wb W.heap.size W.heap.size ((42 :: (Lib.itoa l.length ++ [13, 10])) ++ (l.take i).flatMap bulkB) W')) (fun v20 _ _ => l.length - (intOf v20).toNat)
      case atStart => exact ⟨0, rfl, by omega, fun j hj => by omega, HB1, ⟨by simpa using HA1.out⟩⟩
      case round =>
        obtain ⟨i, rfl, hi, hsz, HB, HW⟩ := hrel
        clear HA1 HB1
        by_cases hlt : i < l.length
        · have hlt' : (i : Int) < (l.length : Int) := by omega
          obtain ⟨a, rfl, ha⟩ := at_S (Kd.C_below HA.out HB.out) i hlt
          have c2' := (errs_below HE.out HB.out).cell 2 (by omega)
          generalize hS : l.getD i ⟨#[]⟩ = s at ha
          have HS := Aside0.mk hS
          have HZ := Lib.hid hsz
          clear hS hsz
          by_cases hb : 65536 < s.size
          · have HV := Aside0.mk (show cmdV ad l = .tuple #[.string ⟨#[]⟩, ev ad 2] by unfold cmdV; rw [cmdE_big h0 (by omega) hlt (by rw [HS.out]; exact hb)])
            have hb' : (65536 : Int) < (s.size : Int) := by omega
            go_wp2_with fail
            go_quiet (fail)
            go_wp2_with fail
            exact bodyPost_ret (v := .tuple #[.string ⟨#[]⟩, ev ad 2]) (by simp [results, Tryd.results22, go_sem]) rfl ⟨by rw [HV.out], pw_below_drewN HB.out _⟩
          · have hb' : ¬ (65536 : Int) < (s.size : Int) := by omega
            have hpl := pre_len l i hi HZ.out
            have hln := Lib.itoa_length_le (l.length : Int) (by omega) (by omega)
            go_wp2_with fail
            refine (wbulk_any W.heap.size W.heap.size _ s wr (HT.out.step HB.out) HW.out (by simp only [List.length_append, List.length_cons, List.length_nil]; omega) HB.out.size).mono ?_
            rintro e w2 ⟨rfl, ha2, hb2⟩
            have HA2 := Aside0.mk ha2
            have HB2 := Aside0.mk (HB.out.trans hb2)
            clear ha2 hb2
            go_wp2_with fail
            go_roundw
            case rel =>
              refine ⟨i + 1, by go_num, by omega, fun j hj => ?_, HB2, ⟨?_⟩⟩
              · by_cases hji : j < i
                · exact HZ.out j hji
                · obtain rfl : j = i := by omega
                  rw [HS.out]; omega
              · have := HA2.out
                rw [take_snoc l i hlt, HS.out, ← List.append_assoc]
                exact this
            case measure => simp [intOf]; omega
        · obtain rfl : i = l.length := by omega
          have hlt' : ¬ (l.length : Int) < (l.length : Int) := by omega
          have HV := Aside0.mk (show cmdV ad l = .tuple #[.string ⟨(cmdB l).toArray⟩, .nilIface] by unfold cmdV; rw [cmdE_none h0 (by omega) hsz])
          go_wp2_with fail
          refine (Bld.string_any 102 W.heap.size W.heap.size (cmdB l) wr (by have := HW.out; rw [List.take_length] at this; exact this) HB.out.size).mono ?_
          rintro e w2 ⟨rfl, hb2⟩
          have HB2 := Aside0.mk (HB.out.trans hb2)
          clear hb2
          go_wp2_with fail
          exact bodyPost_ret (v := .tuple #[.string ⟨(cmdB l).toArray⟩, .nilIface]) (by simp [results, Tryd.results22, go_sem]) rfl ⟨by rw [HV.out], HB2.out⟩
end Go.Proofs.YtbdfjiobegadjaaDoor.Wr
