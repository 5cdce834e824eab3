/- words.Split answers, for every text, just the words that the document says: where what is read is of bulk at most 1048576 (the second form, WordsSplitsUptoSaid). -/
import Derived.Test.YtbdfjiobegadjaaRows
import Derived.Test.YtbdfjiobegadjaaSplitWalk
import Derived.WalkKit
import Derived.ProofKit
import Derived.OpenShut
import Derived.ShutString
import Derived.ChangeOld
import Derived.Below
import Derived.SizedLaws
import Derived.JoinedCond
namespace Go.Proofs.Ytbdfjiobegadjaa.Split
open Go.RowKit Go.Proofs.Ytbdfjiobegadjaa.PWordsSplits Go.Proofs.YtbdfjiobegadjaaW.PrintWords Go.Proofs.YtbdfjiobegadjaaW.PrintLast Go.Proofs.YtbdfjiobegadjaaW.PrintMore
set_option linter.unusedVariables false
theorem small_is (c : Int) (k : Nat) (h0 : 0 ≤ c) (h1 : c ≤ 255) : copseref30_small.f (k + 1) c = some (sm c) := by
  unfold copseref30_small.f
  by_cases a : c ≥ 65
  · rw [if_pos a]
    simp only [copseref30_small.j0]
    by_cases b : c ≤ 90
    · rw [if_pos (by simpa using b)]; unfold sm; rw [if_neg (by omega), if_pos (by omega)]; congr 1; omega
    · rw [if_neg (by simpa using b)]
      by_cases d : c ≥ 97
      · rw [if_pos d]
        by_cases e : c ≤ 122
        · rw [if_pos e]; unfold sm; rw [if_pos (by omega)]
        · rw [if_neg e, if_pos (by omega), if_neg (by omega)]; unfold sm; rw [if_neg (by omega), if_neg (by omega)]
      · rw [if_neg d, if_pos (by omega), if_neg (by omega)]; unfold sm; rw [if_neg (by omega), if_neg (by omega)]
  · rw [if_neg a]
    simp only [copseref30_small.j0]
    rw [if_neg (by simp), if_neg (by omega)]
    by_cases d : c ≥ 48
    · rw [if_pos d]
      by_cases e : c ≤ 57
      · rw [if_pos e]; unfold sm; rw [if_pos (by omega)]
      · rw [if_neg e]; unfold sm; rw [if_neg (by omega), if_neg (by omega)]
    · rw [if_neg d]; unfold sm; rw [if_neg (by omega), if_neg (by omega)]
theorem ref_round (s : ByteArray) (k : Nat) (out : List ByteArray) (now : List Int) (pos : Int) (c : Int) (ho : out.length < 8796093022208) (hn : now.length ≤ 32) :
    copseref30_Split.j1 (k + 2) s out now pos c = copseref30_Split.l0 k s (stp c (out, now)).1 (stp c (out, now)).2 (wrap64 (pos + 1)) := by
  have e1 : ∀ b, copseref30_Split.j1 (k + 2) s out now pos b = (if (now.length : Int) = 32 then (copseref30_Split.j2 (k + 1) s out now pos b true) else (if b = 0 then (copseref30_Split.j2 (k + 1) s out now pos b (decide ((now.length : Int) > 0))) else (copseref30_Split.j2 (k + 1) s out now pos b false))) := fun b => by rw [copseref30_Split.j1]
  rw [e1]
  by_cases h32 : now.length = 32
  · rw [if_pos (by omega), copseref30_Split.j2, if_pos rfl, if_pos ho]
    simp only [Option.bind_some]
    by_cases hc : c = 0
    · rw [if_pos hc]; simp [stp, flush, hc, h32]
    · rw [if_neg hc, if_pos (by simp)]; simp [stp, flush, hc, h32]
  · rw [if_neg (by omega)]
    by_cases hc : c = 0
    · rw [if_pos hc, copseref30_Split.j2]
      by_cases hl : now.length = 0
      · have hn0 : now = [] := List.length_eq_zero_iff.1 hl
        subst hn0
        rw [if_neg (by simp), if_pos hc]; simp [stp, flush, hc]
      · rw [if_pos (by simp; omega), if_pos ho]
        simp only [Option.bind_some]
        rw [if_pos hc]; simp [stp, flush, hc, hl]
    · rw [if_neg hc, copseref30_Split.j2, if_neg (by simp), if_neg hc, if_pos (by omega)]
      simp [stp, hc, h32]
theorem ref_loop (s : ByteArray) (hs : s.size ≤ 1048576) : ∀ (d pos k : Nat) (out : List ByteArray) (now : List Int), s.size - pos = d → pos ≤ s.size → out.length ≤ pos → now.length ≤ 32 → 3 * d + 5 ≤ k →
    copseref30_Split.l0 k s out now (pos : Int) = some (fin (codes s pos) (out, now)) := by
  intro d
  induction d with
  | zero =>
    intro pos k out now hd hp ho hn hk
    obtain rfl : pos = s.size := by omega
    obtain ⟨k, rfl⟩ : ∃ m, k = m + 4 := ⟨k - 4, by omega⟩
    have hr := ref_round s (k + 1) out now (s.size : Int) 0 (by omega) hn
    rw [copseref30_Split.l0, if_pos (by omega), if_neg (by omega), hr, codes_end _ _ (by omega), fin_nil, copseref30_Split.l0, if_neg]
    · simp [stp]
    · unfold wrap64; omega
  | succ d ih =>
    intro pos k out now hd hp ho hn hk
    obtain ⟨k, rfl⟩ : ∃ m, k = m + 3 := ⟨k - 3, by omega⟩
    have hlt : pos < s.size := by omega
    have hb := bt_range s (pos : Int)
    have hr := ref_round s k out now (pos : Int) (sm (bt s pos)) (by omega) hn
    have hw : wrap64 ((pos : Int) + 1) = ((pos + 1 : Nat) : Int) := by unfold wrap64; omega
    have hst := stp_bounds (sm (bt s pos)) out now pos ho hn
    have hbt : bt s (pos : Int) = ((s[pos]).toNat : Int) := by rw [← bt_at s pos (by simpa using hlt)]; rfl
    rw [copseref30_Split.l0, if_pos (by omega), if_pos (by omega), if_pos (by omega), small_is _ (k + 1) hb.1 hb.2]
    simp only [Option.bind_some]
    rw [hr, hw, ih (pos + 1) k _ _ (by omega) (by omega) hst.1 hst.2 (by omega), codes_step s pos hlt, fin_cons, hbt]
theorem ref_total (s : ByteArray) (hs : s.size ≤ 1048576) : copseref30_Split.f (3 * s.size + 5) s = some (total s) := by
  have := ref_loop s hs s.size 0 (3 * s.size + 5) [] [] (by omega) (by omega) (by simp) (by simp) (by omega)
  exact this
theorem same_loop (l : List ByteArray) (hl : l.length ≤ 9223372036854775000) : ∀ (d k pos : Nat), l.length - pos = d → d < k → copseref0_SameStrings.l0 k l l (pos : Int) = some true := by
  intro d
  induction d with
  | zero =>
    intro k pos hd hk
    obtain ⟨k, rfl⟩ : ∃ m, k = m + 1 := ⟨k - 1, by omega⟩
    rw [copseref0_SameStrings.l0, if_neg (by omega)]
  | succ d ih =>
    intro k pos hd hk
    obtain ⟨k, rfl⟩ : ∃ m, k = m + 1 := ⟨k - 1, by omega⟩
    have hw : wrap64 ((pos : Int) + 1) = ((pos + 1 : Nat) : Int) := by unfold wrap64; omega
    rw [copseref0_SameStrings.l0, if_pos (by omega), if_pos (by omega), if_pos (by omega), if_pos rfl, hw]
    exact ih k (pos + 1) (by omega) (by omega)
theorem same_self (l : List ByteArray) (hl : l.length ≤ 9223372036854775000) : copseref0_SameStrings.f (l.length + 1) l l = some true := by
  unfold copseref0_SameStrings.f
  rw [if_pos rfl]
  exact same_loop l hl l.length (l.length + 1) 0 (by omega) (by omega)
theorem fin_length : ∀ (l : List Int) (out : List ByteArray) (now : List Int), now.length ≤ 32 → (fin l (out, now)).length ≤ out.length + l.length + 1
  | [], out, now, _ => by rw [fin_nil]; unfold flush; simp only []; split <;> simp
  | c :: l, out, now, h => by
    have hst := stp_bounds c out now out.length (Nat.le_refl _) h
    have := fin_length l (stp c (out, now)).1 (stp c (out, now)).2 hst.2
    rw [fin_cons]
    simp only [List.length_cons]
    have e : stp c (out, now) = ((stp c (out, now)).1, (stp c (out, now)).2) := rfl
    rw [e]
    omega
theorem total_length (s : ByteArray) : (total s).length ≤ s.size + 1 := by
  have := fin_length (codes s 0) [] [] (by simp)
  have h2 : (codes s 0).length = s.size := by simp [codes]
  rw [h2] at this
  simp only [List.length_nil, Nat.zero_add] at this
  exact this
set_option maxHeartbeats 400000 in
theorem law_any (s : ByteArray) (w : World) (hs : s.size ≤ 1048576) : Calls Try.prog 3 #[.string s] w fun e w' => e = .returned (.bool true) ∧ Below w.heap.size w w' := by
  go_enter Try.func3, Try.ntmps3
  go_wp2_with fail
  refine (split_any s _ (by omega)).mono ?_
  rintro e w1 ⟨v1, rfl, h1, hb1⟩
  go_wp2_with fail
  refine (copseref30_Split.calls _ s _ w1 (ref_total s hs)).mono ?_
  rintro e w2 ⟨v2, rfl, h2, hb2⟩
  have hl := total_length s
  obtain ⟨A1, c1, rfl, hc1, hC1⟩ := Kd.R_reads (Kd.R_below h1 hb2)
  obtain ⟨A2, c2, rfl, hc2, hC2⟩ := Kd.R_reads h2
  go_wp2_with fail
  refine (copseref0_SameStrings.calls _ A1 c1 (total s) A2 c2 (total s) true w2 hC1 hc1 hC2 hc2 (same_self _ (by omega))).mono ?_
  rintro e w3 ⟨rfl, hd⟩
  go_wp2
  go_ret
  exact ⟨rfl, hb1.trans ((hb2.trans (hd.below.mono hb2.size)).mono hb1.size)⟩
end Go.Proofs.Ytbdfjiobegadjaa.Split
namespace Go.Proofs.Ytbdfjiobegadjaa.wordsSplits
open Go.ChangeShapes Go.WideShapes Go.ChangeAt Go.RowKit
open Go.ChangeMaps (open_string shut_string)
set_option linter.unusedVariables false
theorem own : ownKnob Try.prog.godebug = none := by kernel_rfl
theorem contract (H : Type) (enc : TypeId × Value → H) (W : World) (base : Nat) (args : Array Value) (ds gs : List (DataW H)) (before : List MemPlace)
    (hval : ∀ (j : Nat) t v, Try.f3.params[j]? = some t → args[j]? = some v → Value.okWide Try.prog W .any base t v)
    (hW : DataW.Whole enc Try.prog Try.f3.params.toList Rows.wordsSplitsSpec.vars false W args.toList ds gs before) (hk : Rows.uptoSmall H (ds ++ gs) = true) :
    Calls Try.prog 3 args W fun e W' => ∃ v, e = .returned v ∧ Rows.wordsSplitsSpec.post enc Try.prog Try.f3 false true false false W args v W' := by
  have hW' := hW
  obtain ⟨p, q, hA0, hV, rfl, hfz, hnd⟩ := hW
  have hA : DataW.TrodAll enc Try.prog W 0 (fun _ => true) true Try.f3.params.toList args.toList ds p := hA0
  rw [Try.params3] at hA hval
  obtain ⟨v0, vs0, d0, ds0, p0, q0, hargs, rfl, rfl, h0, r0⟩ := trodAll_cons hA
  obtain ⟨rfl, rfl, rfl⟩ := trodAll_nil r0
  obtain rfl : args = #[v0] := by cases args; simp_all
  obtain ⟨rfl, rfl⟩ := trodVars_none hV
  obtain ⟨a0, rfl, rfl, rfl, y0⟩ := open_string Try.underlying9 (hval 0 9 v0 rfl rfl) h0
  clear hA0
  have w0 : a0.size ≤ 1048576 := by
    have h := of_decide_eq_true hk
    simp only [List.append_nil, Rows.uptoBulkAll, Rows.uptoBulk, Array.length_toList] at h
    have e : a0.data.size = a0.size := rfl
    omega
  refine (Split.law_any a0 W w0).mono fun e W' ⟨he, bel⟩ => ?_
  subst he
  exact ⟨_, rfl, _, _, _, [], _, [], hW', trodAll_mk1 (shut_bool Try.underlying4 _), (trodAll_cons_mk (shut_string Try.underlying9 y0) trodAll_mk0), rfl, bel.frame _, fun h => by cases h⟩
set_option maxRecDepth 100000 in
theorem lifted (os : Os) (started : os.Started) (H : Type) (enc : TypeId × Value → H) (F : Stop.Interp) :
    ReturnsInHanded {} Try.checked os 3 .any ((Rows.OpenSpec.upto Rows.wordsSplitsSpec).pre6 enc Try.prog Try.f3 Rows.wordsSplitsUptoRow.domain false) (((Rows.OpenSpec.upto Rows.wordsSplitsSpec).at F).post enc Try.prog Try.f3 false true false false) := by
  refine returnsInHanded_of_cond (C := Try.checked) (s := Rows.OpenSpec.upto Rows.wordsSplitsSpec) (k := Rows.uptoSmall) rfl own started (by kernel_rfl) Try.func3
    (OpenSpec.witness (enc := enc) (C := Try.checked) (s := Rows.OpenSpec.upto Rows.wordsSplitsSpec) (k := Rows.uptoSmall) rfl false ⟨#[], #[.string ByteArray.empty], []⟩ 8 (by kernel_rfl) (by kernel_rfl) (by kernel_rfl)
      (x := ([.lit (.string [])], [], [])) (by kernel_rfl) rfl (by kernel_rfl)) ?_
  intro W base args ds gs before hval hW _ hk _
  exact contract H enc W base args ds gs before hval hW hk
theorem over : Rows.wordsSplitsUptoRow.holds Try.pinned (Rows.OpenSpec.upto Rows.wordsSplitsSpec) :=
  OpenClaim.holds_of_cond 3 Try.f3 rfl rfl rfl rfl rfl rfl rfl ⟨rfl, rfl, rfl, rfl, rfl⟩ rfl rfl rfl rfl rfl (by kernel_rfl) Try.func3 (by kernel_rfl)
    (of_decide_eq_true (by kernel_rfl)) (by unfold Func.isWrapper; first | (rw [if_pos (by decide +kernel)]; kernel_rfl) | (rw [if_neg (by decide +kernel)]; exact ⟨rfl, rfl⟩))
    (fun os started H enc _ F => lifted os started H enc F)
theorem proved : Rows.WordsSplitsUptoSaid := over
#print axioms proved
end Go.Proofs.Ytbdfjiobegadjaa.wordsSplits
namespace Go.Proofs.Ytbdfjiobegadjaa
/-- The row, under a short name, for the claim. -/
theorem wordsSplits_holds : Rows.WordsSplitsUptoSaid := wordsSplits.proved
end Go.Proofs.Ytbdfjiobegadjaa
