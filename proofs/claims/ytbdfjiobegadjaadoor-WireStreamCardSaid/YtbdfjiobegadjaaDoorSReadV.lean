/- The walks of wire's Reader, step by step: a word's bytes, its end, a line's end. -/
import Derived.Test.YtbdfjiobegadjaaDoorSReadW
import Derived.Test.YtbdfjiobegadjaaDoorSReadP
import Derived.Test.YtbdfjiobegadjaaDoorShelf2
namespace Go.Proofs.YtbdfjiobegadjaaDoor.Rd
open Go Go.RowKit Go.Proofs.YtbdfjiobegadjaaDoor.Tk Go.Proofs.YtbdfjiobegadjaaDoor.PWireMemory Go.Proofs.YtbdfjiobegadjaaDoorW.PrintWords Go.Proofs.YtbdfjiobegadjaaDoorW.PrintLast Go.Proofs.YtbdfjiobegadjaaDoorW.PrintMore
set_option linter.unusedVariables false
set_option linter.unusedSectionVars false
set_option linter.unusedSimpArgs false
/-- A list of texts stays where a row of bytes is written. -/
theorem list_grown {w w5 : World} {base : Nat} {dom : Nat → Prop} {v8 v9 : Value} {list : List ByteArray} {text : List Int} (h : ListR w base dom v9 list) (ht : TextR w base dom v8 text) (hg : w.grownBy w5 v8.ownBlock) : ListR w5 base dom v9 list := by
  cases hv : v8.ownBlock with
  | none => exact Kd.R_grown h hg (fun k _ => by rw [hv]; simp)
  | some g =>
    obtain ⟨inner, ho⟩ := Kd.R_own ht
    obtain ⟨cells, hc⟩ := own_typed ho g hv
    exact Kd.R_mono (Kd.R_grown (Kd.R_types h hc (by decide)) hg (fun k hk e => hk.2 (by rw [hv] at e; exact Option.some.inj e))) (fun k hk => hk.1)
theorem info9 : (Tryd.prog.info? 9).map (fun i => (i.zero, i.size, i.bytes)) = some (some (.string ⟨#[]⟩), 1, 16) := by kernel_rfl
/-- The closure that FieldsFunc is handed. -/
theorem sep_pays (w : World) : PredAt Tryd.prog 87 #[] encR isSep w := fun W r _ => by
  unfold FnGives
  by_cases h1 : r = 32
  · subst h1
    have k1 : ((32 : Int) == 32) = true := rfl
    go_enter Tryd.func87, Tryd.ntmps87
    go_wp2
    go_ret
    exact ⟨rfl, 0, rfl⟩
  · have k1 : (((r : Nat) : Int) == 32) = false := by rw [beq_eq_false_iff_ne]; omega
    by_cases h2 : r = 9
    · subst h2
      have k2 : ((9 : Int) == 9) = true := rfl
      go_enter Tryd.func87, Tryd.ntmps87
      go_wp2
      go_ret
      exact ⟨rfl, 0, rfl⟩
    · have k2 : (((r : Nat) : Int) == 9) = false := by rw [beq_eq_false_iff_ne]; omega
      have e : isSep r = false := by simp [isSep, h1, h2]
      rw [e]
      go_enter Tryd.func87, Tryd.ntmps87
      go_wp2
      go_ret
      exact ⟨rfl, 0, rfl⟩
theorem enters87 : ∀ args w, (callFunc 87 args).run Tryd.prog w = .ok (.enter 87 args) w := enters_of Tryd.func87 (by kernel_rfl) rfl
section
variable (N base b : Nat) (dom : Nat → Prop) (ad : Nat → Addr) (W : World) (hx : Cx N base b dom ad W) (wait : ByteArray) (v2 v3 v4 v5 v6 v7 v8 v9 : Value)
include hx
set_option maxHeartbeats 1000000 in
set_option maxRecDepth 100000 in
theorem body_any (left need : Nat) (list : List ByteArray) (text : List Int) (c : Int) (hc0 : 0 ≤ c) (hc1 : c ≤ 255) (h : RD W b (.string wait) .nilIface (mv 93 b) v3 v4 v5 (.int .i64 left) (.int .i64 need) v8 v9) (hl : ListR W base dom v9 list) (ht : TextR W base dom v8 text) (hok : (St.body left need list text).ok) :
    Calls Tryd.prog 93 #[.pointer (some ⟨b, 0, none⟩), .int .u8 c] W (StepOk base dom b wait ad (stepF (.body left need list text) c) W) := by
  obtain ⟨⟨r0, r1, r2, r3, r4, r5, r6, r7, r8, r9⟩, rf⟩ := h.cells
  have f8 := rf 8
  obtain ⟨A8, c8, rfl⟩ := Kd.R_slice ht
  have HX := Aside0.mk hx
  have HR := Aside0.mk h
  have HL := Aside0.mk hl
  have HT := Aside0.mk ht
  have hlt := blk_lt h
  have hmf := mf
  obtain ⟨ok1, ok2, ok3, ok4⟩ := hok
  have hlen : (text.length + 1) * 1 ≤ 140737488355328 := by omega
  clear hx h hl ht r0 r1 r2 r3 r4 r5 r6 r7 r9 rf
  by_cases hn : text.length + 1 = need
  · have ho : stepF (.body left need list text) c = .go (.bodyEnd left list (text ++ [c])) := by rw [stepF, if_pos hn]
    rw [ho]
    have hb : (((text.length : Int) + 1) == (need : Int)) = true := by rw [beq_iff_eq]; omega
    clear hn ho
    go_enter Tryd.func93, Tryd.ntmps93
    go_wp2_with ((with_reducible refine gate_builtin (b := .append) (xs := #[.tmp 10, .tmp 12]) rfl ?_); at_builtin; refine Kd.R_append (Kd.int .u8) (w0 := W) base rfl (.tmp 10) (.tmp 12) 90 5 (.int .u8 0) 1 rfl Tryd.underlying90 info5 rfl (by decide) (by omega) (.slice A8 text.length c8) text c [.int .u8 c] dom (fun _ => False) rfl rfl rfl (fun _ hk => hk.elim) HX.out.new HT.out (Below.refl _ _) HX.out.base hlen ?_; intro v5 w5 ho5 hb5 hg5 hat5; obtain ⟨A5, cp5, e5⟩ := slice_snoc ho5; subst e5; have HO5 := Aside0.mk ho5; have HG5 := Aside0.mk (OnlyD.grown (OnlyD.refl b dom W) hg5 HT.out.1); have HR5 := Aside0.mk (show RD w5 b _ _ _ _ _ _ _ _ _ _ from blk_grown HR.out hg5 (Kd.R_ne HT.out HR.out (by decide))); obtain ⟨⟨_, _, q2, _, _, _, _, q7, q8, _⟩, qf⟩ := HR5.out.cells; have HL5 := Aside0.mk (show ListR w5 base dom v9 list from list_grown HL.out HT.out hg5); clear ho5 hb5 hg5 hat5)
    go_quiet (fail)
    go_wp2
    go_ret2
    exact ⟨⟨rfl, _, _, _, _, _, _, _, blk_set (blk_set HR5.out 8 _) 2 _, rfl, Kd.R_set (Kd.R_set HL5.out HR5.out (by decide) 8 _) (blk_set HR5.out 8 _) (by decide) 2 _, Kd.R_set (Kd.R_set HO5.out HR5.out (by decide) 8 _) (blk_set HR5.out 8 _) (by decide) 2 _⟩, ((HG5.out.set 8 _).drewN _).set 2 _⟩
  · have ho : stepF (.body left need list text) c = .go (.body left need list (text ++ [c])) := by rw [stepF, if_neg hn]
    rw [ho]
    have hb : (((text.length : Int) + 1) == (need : Int)) = false := by rw [beq_eq_false_iff_ne]; omega
    clear hn ho
    go_enter Tryd.func93, Tryd.ntmps93
    go_wp2_with ((with_reducible refine gate_builtin (b := .append) (xs := #[.tmp 10, .tmp 12]) rfl ?_); at_builtin; refine Kd.R_append (Kd.int .u8) (w0 := W) base rfl (.tmp 10) (.tmp 12) 90 5 (.int .u8 0) 1 rfl Tryd.underlying90 info5 rfl (by decide) (by omega) (.slice A8 text.length c8) text c [.int .u8 c] dom (fun _ => False) rfl rfl rfl (fun _ hk => hk.elim) HX.out.new HT.out (Below.refl _ _) HX.out.base hlen ?_; intro v5 w5 ho5 hb5 hg5 hat5; obtain ⟨A5, cp5, e5⟩ := slice_snoc ho5; subst e5; have HO5 := Aside0.mk ho5; have HG5 := Aside0.mk (OnlyD.grown (OnlyD.refl b dom W) hg5 HT.out.1); have HR5 := Aside0.mk (show RD w5 b _ _ _ _ _ _ _ _ _ _ from blk_grown HR.out hg5 (Kd.R_ne HT.out HR.out (by decide))); obtain ⟨⟨_, _, q2, _, _, _, _, q7, q8, _⟩, qf⟩ := HR5.out.cells; have HL5 := Aside0.mk (show ListR w5 base dom v9 list from list_grown HL.out HT.out hg5); clear ho5 hb5 hg5 hat5)
    go_quiet (fail)
    go_wp2
    go_ret2
    exact ⟨⟨rfl, _, _, _, _, _, _, _, blk_set HR5.out 8 _, rfl, rfl, Kd.R_set HL5.out HR5.out (by decide) 8 _, Kd.R_set HO5.out HR5.out (by decide) 8 _⟩, (HG5.out.set 8 _).drewN _⟩
set_option maxHeartbeats 1000000 in
set_option maxRecDepth 100000 in
theorem worded_any (left : Nat) (list : List ByteArray) (text : List Int) (c : Int) (hc0 : 0 ≤ c) (hc1 : c ≤ 255) (h : RD W b (.string wait) .nilIface (mv 100 b) v3 v4 v5 (.int .i64 left) v7 v8 v9) (hl : ListR W base dom v9 list) (ht : TextR W base dom v8 text) (hok : (St.worded left list text).ok) :
    Calls Tryd.prog 100 #[.pointer (some ⟨b, 0, none⟩), .int .u8 c] W (StepOk base dom b wait ad (stepF (.worded left list text) c) W) := by
  obtain ⟨⟨r0, r1, r2, r3, r4, r5, r6, r7, r8, r9⟩, rf⟩ := h.cells
  obtain ⟨e1, e2⟩ := hx.err
  obtain ⟨A8, c8, rfl⟩ := Kd.R_slice ht
  obtain ⟨A9, c9, rfl⟩ := Kd.R_slice hl
  have HX := Aside0.mk hx
  have HR := Aside0.mk h
  have HL := Aside0.mk hl
  have HT := Aside0.mk ht
  have hlt := blk_lt h
  have hmf := mf
  obtain ⟨ok1, ok2, ok3⟩ := hok
  have hlen : (list.length + 1) * 16 ≤ 140737488355328 := by omega
  by_cases h10 : c = 10
  · subst h10
    have k1 : ((10 : Int) != 10) = false := rfl
    have hcv : (convert 90 9 (.slice A8 text.length c8)).run Tryd.prog W.drew = .ok (.string (strOfNums text)) W.drew := Kd.C_string Tryd.underlying90 Tryd.underlying5 Tryd.underlying9 (Kd.R_reads' (show TextR W.drew base dom (.slice A8 text.length c8) text from ht)).2.2
    have f2 := rf 2
    have f6 := rf 6
    have f9 := rf 9
    clear hx h hl ht r0 r1 r3 r4 r5 r7 rf e1 e2
    by_cases hl1 : left = 1
    · have ho : stepF (.worded left list text) 10 = .whole (list ++ [strOfNums text]) := by rw [stepF, if_neg (by simp), if_pos hl1]
      rw [ho]
      have kb : (((left : Int) - 1) == 0) = true := by rw [beq_iff_eq]; omega
      have kl : (1 : Int) ≤ (left : Int) := by omega
      have kl2 : (left : Int) ≤ 16 := by omega
      clear ho hl1
      go_enter Tryd.func100, Tryd.ntmps100
      go_wp2_with fail
      go_region_law (refine Kd.R_append_step Kd.string (w0 := W.drew) base rfl (.tmp 13) (.tmp 19) 45 9 (.string ⟨#[]⟩) 16 rfl Tryd.underlying45 info9 rfl (by decide) (by omega) (.slice A9 list.length c9) list (strOfNums text) [.string (strOfNums text)] dom (fun _ => False) rfl rfl rfl (fun _ hk => hk.elim) HX.out.drew.new (by exact HL.out) (Below.refl _ _) HX.out.drew.base hlen ?_; intro v5 w5 ho5 hb5 hg5 hat5; obtain ⟨A5, cp5, e5⟩ := slice_snoc ho5; subst e5; have HO5 := Aside0.mk ho5; have HG5 := Aside0.mk (OnlyD.from_drew (OnlyD.grown (OnlyD.refl b dom W.drew) hg5 HL.out.1)); have HR5 := Aside0.mk (show RD w5 b _ _ _ _ _ _ _ _ _ _ from blk_grown (w := W.drew) HR.out hg5 (Kd.R_ne HL.out HR.out (by decide))); obtain ⟨⟨_, _, q2, _, _, _, q6, _, _, q9⟩, qf⟩ := HR5.out.cells; have qf2 := qf 2; have qf6 := qf 6; have qf9 := qf 9; clear ho5 hb5 hg5 hat5 qf)
      all_goals
        go_wp2
        go_ret2
        exact ⟨⟨rfl, _, _, _, _, _, _, _, blk_set (blk_set (blk_set (blk_set HR5.out 9 _) 6 _) 2 _) 2 _, Kd.R_set (Kd.R_set (Kd.R_set (Kd.R_set HO5.out HR5.out (by decide) 9 _) (blk_set HR5.out 9 _) (by decide) 6 _) (blk_set (blk_set HR5.out 9 _) 6 _) (by decide) 2 _) (blk_set (blk_set (blk_set HR5.out 9 _) 6 _) 2 _) (by decide) 2 _⟩, (((HG5.out.set 9 _).set 6 _).set 2 _).set 2 _⟩
    · have ho : stepF (.worded left list text) 10 = .go (.dollar (left - 1) (list ++ [strOfNums text])) := by rw [stepF, if_neg (by simp), if_neg hl1]
      rw [ho]
      have kb : (((left : Int) - 1) == 0) = false := by rw [beq_eq_false_iff_ne]; omega
      have kl : (1 : Int) ≤ (left : Int) := by omega
      have kl2 : (left : Int) ≤ 16 := by omega
      have hcast := Lib.hid (show ((left : Int) - 1) = ((left - 1 : Nat) : Int) by omega)
      clear ho hl1
      go_enter Tryd.func100, Tryd.ntmps100
      go_wp2_with fail
      go_region_law (refine Kd.R_append_step Kd.string (w0 := W.drew) base rfl (.tmp 13) (.tmp 19) 45 9 (.string ⟨#[]⟩) 16 rfl Tryd.underlying45 info9 rfl (by decide) (by omega) (.slice A9 list.length c9) list (strOfNums text) [.string (strOfNums text)] dom (fun _ => False) rfl rfl rfl (fun _ hk => hk.elim) HX.out.drew.new (by exact HL.out) (Below.refl _ _) HX.out.drew.base hlen ?_; intro v5 w5 ho5 hb5 hg5 hat5; obtain ⟨A5, cp5, e5⟩ := slice_snoc ho5; subst e5; have HO5 := Aside0.mk ho5; have HG5 := Aside0.mk (OnlyD.from_drew (OnlyD.grown (OnlyD.refl b dom W.drew) hg5 HL.out.1)); have HR5 := Aside0.mk (show RD w5 b _ _ _ _ _ _ _ _ _ _ from blk_grown (w := W.drew) HR.out hg5 (Kd.R_ne HL.out HR.out (by decide))); obtain ⟨⟨_, _, q2, _, _, _, q6, _, _, q9⟩, qf⟩ := HR5.out.cells; have qf2 := qf 2; have qf6 := qf 6; have qf9 := qf 9; clear ho5 hb5 hg5 hat5 qf)
      all_goals
        go_wp2
        go_ret2
        rw [hcast.out]
        exact ⟨⟨rfl, _, _, _, _, _, _, _, blk_set (blk_set (blk_set HR5.out 9 _) 6 _) 2 _, rfl, Kd.R_set (Kd.R_set (Kd.R_set HO5.out HR5.out (by decide) 9 _) (blk_set HR5.out 9 _) (by decide) 6 _) (blk_set (blk_set HR5.out 9 _) 6 _) (by decide) 2 _⟩, ((HG5.out.set 9 _).set 6 _).set 2 _⟩
  · have ho : stepF (.worded left list text) c = .bad 1 := by rw [stepF, if_pos h10]
    rw [ho]
    have k1 : (c != 10) = true := by rw [bne_iff_ne]; exact h10
    clear h10 ho hx h hl ht r0 r1 r3 r4 r5 r7 rf r2 r6 r8 r9
    go_enter Tryd.func100, Tryd.ntmps100
    go_wp2
    go_quiet (fail)
    go_wp2
    go_ret2
    exact ⟨⟨rfl, _, _, _, _, _, _, _, _, HR.out⟩, (OnlyD.refl _ _ _).drewN _⟩
set_option maxHeartbeats 1000000 in
set_option maxRecDepth 100000 in
theorem lineEnd_any (text : List Int) (c : Int) (hc0 : 0 ≤ c) (hc1 : c ≤ 255) (h : RD W b (.string wait) .nilIface (mv 79 b) v3 v4 v5 v6 v7 v8 v9) (ht : TextR W base dom v8 text) (hok : (St.lineEnd text).ok) :
    Calls Tryd.prog 79 #[.pointer (some ⟨b, 0, none⟩), .int .u8 c] W (StepOk base dom b wait ad (stepF (.lineEnd text) c) W) := by
  obtain ⟨⟨r0, r1, r2, r3, r4, r5, r6, r7, r8, r9⟩, rf⟩ := h.cells
  obtain ⟨e1, e2⟩ := hx.err
  obtain ⟨A8, c8, rfl⟩ := Kd.R_slice ht
  have HX := Aside0.mk hx
  have HR := Aside0.mk h
  have HT := Aside0.mk ht
  have hlt := blk_lt h
  have hmf := mf
  obtain ⟨ok1, ok2⟩ := hok
  by_cases h10 : c = 10
  · subst h10
    have k1 : ((10 : Int) != 10) = false := rfl
    have hcv : (convert 90 9 (.slice A8 text.length c8)).run Tryd.prog W = .ok (.string (strOfNums text)) W := Kd.C_string Tryd.underlying90 Tryd.underlying5 Tryd.underlying9 (Kd.R_reads' ht).2.2
    have HF := Lib.hid (fields_words text ok2)
    have hss := Lib.hid (show (strOfNums text).size ≤ 4294967296 by
      have : (strOfNums text).size = text.length := by
        show (text.map _).toArray.size = _
        simp
      omega)
    have ho : stepF (.lineEnd text) 10 = if 16 < (wordsOf text).length then .bad 2 else if wordsOf text = [] then .go .start else .whole (wordsOf text) := by rw [stepF, endF, if_neg (by simp)]
    clear hx h ht r0 r1 r3 r4 r5 r6 r7
    generalize hw : wordsOf text = l at ho HF
    have hO : (16 < l.length ∧ stepF (.lineEnd text) 10 = .bad 2) ∨ (l = [] ∧ stepF (.lineEnd text) 10 = .go .start) ∨ (1 ≤ l.length ∧ l.length ≤ 16 ∧ stepF (.lineEnd text) 10 = .whole l) := by
      rw [ho]
      by_cases g1 : 16 < l.length
      · exact .inl ⟨g1, by rw [if_pos g1]⟩
      · by_cases g2 : l = []
        · exact .inr (.inl ⟨g2, by rw [if_neg g1, if_pos g2]⟩)
        · exact .inr (.inr ⟨List.length_pos_iff.2 g2, by omega, by rw [if_neg g1, if_neg g2]⟩)
    clear ho hw
    rcases hO with ⟨g1, ho⟩ | ⟨rfl, ho⟩ | ⟨g1, g2, ho⟩
    · rw [ho]
      have k2 : (16 : Int) < (l.length : Int) := by omega
      clear ho ok2
      go_enter Tryd.func79, Tryd.ntmps79
      go_wp2_with fail
      go_at_call 86
      refine (Tryd.strings_FieldsFunc 87 #[] enters87 isSep (strOfNums text) W hss.out (sep_pays W)).mono ?_
      rw [HF.out]
      rintro _ w1 ⟨A, rfl, hA, hown, hb⟩
      have HB := Aside0.mk hb
      have HE := Aside0.mk (HX.out.only (OnlyD.of_below hb)).err
      obtain ⟨e1', e2'⟩ := HE.out
      clear hown hb
      go_wp2
      go_quiet (fail)
      go_wp2
      go_ret2
      exact ⟨⟨rfl, _, _, _, _, _, _, _, _, (HB.out.block _ hlt).trans HR.out⟩, (OnlyD.of_below HB.out).drewN _⟩
    · rw [ho]
      have k2 : ¬ (16 : Int) < ((([] : List ByteArray).length : Nat) : Int) := by simp
      clear ho ok2
      go_enter Tryd.func79, Tryd.ntmps79
      go_wp2_with fail
      go_at_call 86
      refine (Tryd.strings_FieldsFunc 87 #[] enters87 isSep (strOfNums text) W hss.out (sep_pays W)).mono ?_
      rw [HF.out]
      rintro _ w1 ⟨A, rfl, hA, hown, hb⟩
      have HB := Aside0.mk hb
      have HR1 := Aside0.mk (show RD w1 b _ _ _ _ _ _ _ _ _ _ from (hb.block _ hlt).trans HR.out)
      obtain ⟨⟨_, _, q2, _, _, _, _, _, _, q9⟩, qf⟩ := HR1.out.cells
      have qf2 := qf 2
      have qf9 := qf 9
      have hlt1 := blk_lt HR1.out
      clear hown hb qf
      go_wp2
      go_ret2
      exact ⟨⟨rfl, _, _, _, _, _, _, _, blk_set (blk_set HR1.out 9 _) 2 _, trivial⟩, ((OnlyD.of_below HB.out).set 9 _).set 2 _⟩
    · rw [ho]
      have k2 : ¬ (16 : Int) < (l.length : Int) := by omega
      have k3 : decide (0 < l.length) = true := by simp; omega
      clear ho ok2
      go_enter Tryd.func79, Tryd.ntmps79
      go_wp2_with fail
      go_at_call 86
      refine (Tryd.strings_FieldsFunc 87 #[] enters87 isSep (strOfNums text) W hss.out (sep_pays W)).mono ?_
      rw [HF.out]
      rintro _ w1 ⟨A, rfl, hA, hown, hb⟩
      have HB := Aside0.mk hb
      have HR1 := Aside0.mk (show RD w1 b _ _ _ _ _ _ _ _ _ _ from (hb.block _ hlt).trans HR.out)
      have HL := Aside0.mk (show ListR w1 base dom (.slice (some ⟨A, 0, none⟩) l.length l.length) l from Kd.R_of_own (enc := Value.string) (h1 := fun _ => rfl) (own_weaken hown HX.out.base) (fun k hk => HX.out.new k (by simp [Value.ownBlock] at hk; omega)))
      obtain ⟨⟨_, _, q2, _, _, _, _, _, _, q9⟩, qf⟩ := HR1.out.cells
      have qf2 := qf 2
      have qf9 := qf 9
      have hlt1 := blk_lt HR1.out
      clear hown hb qf
      go_wp2
      go_ret2
      exact ⟨⟨rfl, _, _, _, _, _, _, _, blk_set (blk_set HR1.out 9 _) 2 _, Kd.R_set (Kd.R_set HL.out HR1.out (by decide) 9 _) (blk_set HR1.out 9 _) (by decide) 2 _⟩, ((OnlyD.of_below HB.out).set 9 _).set 2 _⟩
  · have ho : stepF (.lineEnd text) c = .bad 1 := by rw [stepF, endF, if_pos h10]
    rw [ho]
    have k1 : (c != 10) = true := by rw [bne_iff_ne]; exact h10
    clear h10 ho hx h ht r0 r1 r3 r4 r5 r7 rf r2 r6 r8 r9 ok2
    go_enter Tryd.func79, Tryd.ntmps79
    go_wp2
    go_quiet (fail)
    go_wp2
    go_ret2
    exact ⟨⟨rfl, _, _, _, _, _, _, _, _, HR.out⟩, (OnlyD.refl _ _ _).drewN _⟩
end
end Go.Proofs.YtbdfjiobegadjaaDoor.Rd
