/- A text begins with another one just if it is not below it and below what Above says of it; where nothing is above, just if it is not below it: of every two texts. No condition. -/
import Derived.Test.YthlolfncdjaniaaRows
import Derived.Test.YthlolfncdjaniaaAbovePlain
import Derived.WalkKit
import Derived.ProofKit
import Derived.OpenShut
import Derived.ShutString
import Derived.ChangeOld
import Derived.Below
import Derived.SizedLaws
import Derived.Lib.SmallJoins
import Derived.Lib.Hide
namespace Go.Proofs.Ythlolfncdjaniaa.Ab
open Go.RowKit
set_option maxHeartbeats 400000 in
theorem begins_any (s t : ByteArray) (w : World) (hs : s.size ≤ 140737488351232) (ht : t.size ≤ 140737488351232) :
    Calls Try.prog 7 #[.string s, .string t] w fun e w' => e = .returned (.bool (begB s t)) ∧ w = w' := by
  by_cases h : t.size ≤ s.size
  · go_enter Try.func7, Try.ntmps7
    go_wp2
    go_ret
    exact ⟨by simp [begB, h], rfl⟩
  · have h' : s.size < t.size := by omega
    go_enter Try.func7, Try.ntmps7
    go_wp2
    go_ret
    exact ⟨by simp [begB, h], rfl⟩
theorem abab : ab ⟨#[97, 98]⟩ 2 = (⟨#[97, 99]⟩, true) := by kernel_rfl
theorem above_ab (w : World) : Calls Try.prog 5 #[.string ⟨#[97, 98]⟩] w fun e w' => e = .returned (.tuple #[.string ⟨#[97, 99]⟩, .bool true]) ∧ Below w.heap.size w w' :=
  (above_any ⟨#[97, 98]⟩ w (by decide)).mono fun _ _ ⟨he, hb⟩ => ⟨by rw [he, show (ByteArray.size ⟨#[97, 98]⟩) = 2 from rfl, abab], hb⟩
theorem above_no (s : ByteArray) (w : World) (hs : s.size ≤ 140737488351232) (h : (ab s s.size).2 = false) :
    Calls Try.prog 5 #[.string s] w fun e w' => e = .returned (.tuple #[.string ⟨#[]⟩, .bool false]) ∧ Below w.heap.size w w' :=
  (above_any s w hs).mono fun _ _ ⟨he, hb⟩ => ⟨by rw [he, h, (ab_no s s.size (Nat.le_refl _) h).1], hb⟩
theorem above_yes (s : ByteArray) (w : World) (hs : s.size ≤ 140737488351232) (h : (ab s s.size).2 = true) :
    Calls Try.prog 5 #[.string s] w fun e w' => e = .returned (.tuple #[.string (ab s s.size).1, .bool true]) ∧ Below w.heap.size w w' :=
  (above_any s w hs).mono fun _ _ ⟨he, hb⟩ => ⟨by rw [he, h], hb⟩
theorem bcell {W w1 : World} (hb : Below W.heap.size W w1) : (∀ b o, b < W.heap.size → w1.cell? ⟨b, o, none⟩ = W.cell? ⟨b, o, none⟩) ∧ (∀ b o, b < W.heap.size → w1.frozen? ⟨b, o, none⟩ = W.frozen? ⟨b, o, none⟩) :=
  ⟨fun b o h => hb.cell (p := ⟨b, o, none⟩) h, fun b o h => hb.frozen (p := ⟨b, o, none⟩) h⟩
theorem below_of {w w1 w2 : World} {o : Obj} (h1 : Below (w.alloc o).drew.heap.size (w.alloc o).drew w1) (h2 : Below w1.heap.size w1 w2) : Below w.heap.size w w2 := by
  have h0 : Below w.heap.size w (w.alloc o).drew := ((Below.refl _ _).alloc (Nat.le_refl _) _).drew
  exact h0.trans ((h1.trans (h2.mono h1.size)).mono (by simp))
set_option maxHeartbeats 400000 in
theorem above_law (s t : ByteArray) (w : World) (hs : s.size ≤ 140737488351232) (ht : t.size ≤ 140737488351232) :
    Calls Try.prog 4 #[.agg #[.string s, .string t]] w fun e w' => e = .returned (.bool true) ∧ Below w.heap.size w w' := by
  cases h : (ab s s.size).2 with
  | true =>
    have H := Lib.hid (up_yes s t h)
    have Hh := Lib.hid h
    clear h
    go_enter Try.func4, Try.ntmps4
    go_wp2
    go_region
    go_wp2_with fail
    refine (above_ab _).mono ?_
    rintro e w1 ⟨rfl, hb1⟩
    go_wp2_with fail
    refine (above_yes s _ hs Hh.out).mono ?_
    rintro e w2 ⟨rfl, hb2⟩
    go_wp2_with (go_at_call 7; refine (begins_any _ _ _ ht hs).mono ?_; rintro e w' ⟨rfl, rfl⟩)
    · have hl : Op.bytesLess t.toList s.toList = true := by assumption
      go_ret
      exact ⟨by rw [H.out, hl]; rfl, below_of hb1 hb2⟩
    · have hl : ¬ Op.bytesLess t.toList s.toList = true := by assumption
      go_ret
      exact ⟨by rw [H.out, eq_false_of_ne_true hl]; simp, below_of hb1 hb2⟩
  | false =>
    have H := Lib.hid (up_no s t h).2
    have A := Lib.hid (ab_no s s.size (Nat.le_refl _) h).2
    have Hh := Lib.hid h
    clear h
    go_enter Try.func4, Try.ntmps4
    go_wp2
    go_region
    go_wp2_with fail
    refine (above_ab _).mono ?_
    rintro e w1 ⟨rfl, hb1⟩
    go_wp2_with fail
    refine (above_no s _ hs Hh.out).mono ?_
    rintro e w2 ⟨rfl, hb2⟩
    go_wp2_with fail
    go_loop [9] (fun i => ∃ k : Nat, k ≤ s.size ∧ i = .int .i64 k) (fun i => s.size - (intOf i).toNat)
    case atStart => exact ⟨0, Nat.zero_le _, rfl⟩
    case round =>
      obtain ⟨k, hk, rfl⟩ := hrel
      by_cases hlt : k < s.size
      · have hc : ((s[k]).toNat : Int) = 255 := by have := A.out k hlt; simpa [bt, hlt] using this
        go_wp2_with fail
        go_round
        case rel => exact ⟨k + 1, by omega, by go_num⟩
        case measure => simp [intOf]; omega
      · go_wp2_with (go_at_call 7; refine (begins_any _ _ _ ht hs).mono ?_; rintro e w' ⟨rfl, rfl⟩)
        go_ret
        exact ⟨by rw [H.out]; simp, below_of hb1 hb2⟩
end Go.Proofs.Ythlolfncdjaniaa.Ab
namespace Go.Proofs.Ythlolfncdjaniaa.tupleAbove
open Go.ChangeShapes Go.WideShapes Go.ChangeAt Go.RowKit Go.Joins
open Go.ChangeMaps (open_string shut_string)
theorem own : ownKnob Try.prog.godebug = none := by kernel_rfl
theorem cells26 : Try.prog.cellsOf 26 = 2 := by kernel_rfl
theorem sized2 {H : Type} {ts : List TypeId} {a b : List UInt8} (h : (DataW.weightsEach Try.prog (26 :: ts) ((DataW.agg [.lit (.string a), .lit (.string b)] : DataW H) :: [])).all (· ≤ reachBytes) = true) :
    a.length ≤ reachBytes ∧ b.length ≤ reachBytes := by
  have h1 := List.all_eq_true.1 h a.length (DataW.weights_mem_each (j := 0) (t := 26) rfl rfl _ (by simp [DataW.weights, DataW.weightsEach, Try.underlying26]))
  have h2 := List.all_eq_true.1 h b.length (DataW.weights_mem_each (j := 0) (t := 26) rfl rfl _ (by simp [DataW.weights, DataW.weightsEach, Try.underlying26]))
  exact ⟨by simpa using h1, by simpa using h2⟩
theorem str_reads {H : Type} {enc : TypeId × Value → H} {W : World} {base : Nat} {spare : Nat → Bool} {held : Bool} (s : ByteArray) (hs : s.size ≤ maxLen) :
    ∃ n, DataW.trod enc Try.prog W base spare held n 9 [.string s] = some (.lit (.string s.data.toList), []) := ⟨1, by simp [DataW.trod, Try.underlying9, hs]⟩
set_option maxRecDepth 100000 in
theorem lifted (os : Os) (started : os.Started) (H : Type) (enc : TypeId × Value → H) :
    ReturnsInHanded {} Try.checked os 4 .any (Rows.tupleAboveSpec.pre6 enc Try.prog Try.f4 Rows.tupleAboveRow.domain false) (Rows.tupleAboveSpec.post enc Try.prog Try.f4 false true false false) := by
  refine returnsInHanded_of_change_sized (C := Try.checked) own started (by kernel_rfl) Try.func4
    (ChangeSpec.witness6 (enc := enc) (C := Try.checked) false ⟨#[], #[.agg #[.string ByteArray.empty, .string ByteArray.empty]], []⟩ 8 (by kernel_rfl) (by kernel_rfl) (by kernel_rfl) (by kernel_rfl)) ?_
  intro W base args ds gs before hval0 hW hcnd hsz0 _
  have hsz : (DataW.weightsEach Try.prog (Try.f4.params.toList ++ Rows.tupleAboveSpec.plain.varTypes Try.prog) (ds ++ gs)).all (· ≤ reachBytes) = true := hsz0
  have hval : ∀ (j : Nat) t v, Try.f4.params[j]? = some t → args[j]? = some v → Value.okWide Try.prog W .any base t v := hval0
  have hW' := hW
  obtain ⟨p, q, hA0, hV, rfl, hfz, hnd⟩ := hW
  have hA : DataW.TrodAll enc Try.prog W 0 (fun _ => true) true Try.f4.params.toList args.toList ds p := hA0
  rw [Try.params4] at hA hval hsz
  obtain ⟨v0, vs0, d0, ds0, p0, q0, hargs, rfl, rfl, h0, r0⟩ := trodAll_cons hA
  obtain ⟨rfl, rfl, rfl⟩ := trodAll_nil r0
  obtain rfl : args = #[v0] := by cases args; simp_all
  obtain ⟨rfl, rfl⟩ := trodVars_none hV
  obtain ⟨c0, c1, y0, y1, m, rfl, rfl, rfl, hy0, hy1⟩ := open_agg2 Try.underlying26 (by kernel_rfl) cells26 (hval 0 26 v0 rfl rfl) h0
  obtain ⟨a, e0, rfl, wa⟩ := DataW.trod_string Try.underlying9 hy0
  obtain ⟨b, e1, rfl, wb⟩ := DataW.trod_string Try.underlying9 hy1
  simp only [List.cons.injEq, and_true] at e0 e1
  subst e0
  subst e1
  have hz := sized2 (a := a.data.toList) (b := b.data.toList) hsz
  rw [Array.length_toList, Array.length_toList] at hz
  clear hA0 hval0 hsz0 hsz
  refine (Ab.above_law a b W hz.1 hz.2).mono fun e W' ⟨he, bel⟩ => ?_
  subst he
  exact ⟨_, rfl, _, _, _, [], _, [], hW', trodAll_mk1 (shut_bool Try.underlying4 _), (trodAll_cons_mk (shut_agg2 (y0 := (.lit (.string a.data.toList), [])) (y1 := (.lit (.string b.data.toList), [])) Try.underlying26 (by kernel_rfl) cells26 (str_reads a wa) (str_reads b wb)) trodAll_mk0), rfl, bel.frame _, fun h => by cases h⟩
theorem over : Rows.tupleAboveRow.holds Try.pinned (OpenSpec.ofChange Rows.tupleAboveSpec) :=
  OpenClaim.holds_of_wide 4 Try.f4 rfl rfl rfl rfl rfl rfl rfl ⟨rfl, rfl, rfl, rfl, rfl⟩ rfl rfl rfl rfl rfl (by kernel_rfl) Try.func4 (by kernel_rfl)
    (of_decide_eq_true (by kernel_rfl)) (by unfold Func.isWrapper; first | (rw [if_pos (by decide +kernel)]; kernel_rfl) | (rw [if_neg (by decide +kernel)]; exact ⟨rfl, rfl⟩))
    (fun os started H enc _ => lifted os started H enc)
theorem proved : Rows.TupleAboveSaid := over
#print axioms proved
end Go.Proofs.Ythlolfncdjaniaa.tupleAbove
namespace Go.Proofs.Ythlolfncdjaniaa
/-- The row, under a short name, for the claim. -/
theorem tupleAbove_holds : Rows.TupleAboveSaid := tupleAbove.proved
end Go.Proofs.Ythlolfncdjaniaa
