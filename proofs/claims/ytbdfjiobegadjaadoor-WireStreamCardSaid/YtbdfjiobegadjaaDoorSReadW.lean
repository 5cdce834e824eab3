/- The walks of wire's Reader, step by step. -/
import Derived.Test.YtbdfjiobegadjaaDoorSRead
import Derived.BigQuiet
import Derived.RegionTactic
import Derived.Laws.EntriesVeiled
import Derived.Deep.RegionLaw
namespace Go.Proofs.YtbdfjiobegadjaaDoor.Rd
open Go Go.RowKit Go.Proofs.YtbdfjiobegadjaaDoor.Tk Go.Proofs.YtbdfjiobegadjaaDoor.PWireMemory Go.Proofs.YtbdfjiobegadjaaDoorW.PrintWords Go.Proofs.YtbdfjiobegadjaaDoorW.PrintLast Go.Proofs.YtbdfjiobegadjaaDoorW.PrintMore
set_option linter.unusedVariables false
set_option linter.unusedSectionVars false
set_option linter.unusedSimpArgs false
/-- What each walk asks of the world. -/
structure Cx (N base b : Nat) (dom : Nat → Prop) (ad : Nat → Addr) (W : World) : Prop where
  en : EN N W ad
  low : N ≤ b
  base : base ≤ W.heap.size
  new : ∀ k, W.heap.size ≤ k → dom k
  old : ∀ k, dom k → N ≤ k
theorem Cx.only {N base b : Nat} {dom : Nat → Prop} {ad : Nat → Addr} {W W' : World} (h : Cx N base b dom ad W) (ho : OnlyD b dom W W') : Cx N base b dom ad W' := by
  refine ⟨h.en.move fun i hi => ?_, h.low, Nat.le_trans h.base ho.size, fun k hk => h.new k (Nat.le_trans ho.size hk), h.old⟩
  have hl := h.low
  by_cases hs : i < W.heap.size
  · exact ho.keep i hs (by omega) (fun hd => by have := h.old i hd; omega)
  · exact absurd (h.old i (h.new i (by omega))) (by omega)
theorem mf (fn : Fn) (first cap : Array Value) (w : World) : (Instr.makeFunc fn first cap).run Tryd.prog w = .ok (.func fn first cap) w := rfl
theorem slice_snoc {α : Type} {d : Kd α} {e : Nat} {w : World} {base : Nat} {ok : Nat → Prop} {v : Value} {xs : List α} {x : α} (h : d.R e w base ok v (xs ++ [x])) : ∃ A c, v = .slice A (xs.length + 1) c := by
  obtain ⟨A, c, e⟩ := Kd.R_slice h
  exact ⟨A, c, by rw [e, List.length_append]; rfl⟩
theorem Cx.err {N base b : Nat} {dom : Nat → Prop} {ad : Nat → Addr} {W : World} (h : Cx N base b dom ad W) : W.cell? ⟨1, 0, none⟩ = some (ev ad 1) ∧ W.cell? ⟨2, 0, none⟩ = some (ev ad 2) := ⟨h.en.errs.cell 1 (by omega), h.en.errs.cell 2 (by omega)⟩
set_option maxHeartbeats 1000000 in
set_option maxRecDepth 100000 in
theorem line_any (N base b : Nat) (dom : Nat → Prop) (ad : Nat → Addr) (W : World) (hx : Cx N base b dom ad W) (wait : ByteArray) (v3 v4 v5 v6 v7 v8 v9 : Value) (text : List Int) (c : Int) (hc0 : 0 ≤ c) (hc1 : c ≤ 255)
    (h : RD W b (.string wait) .nilIface (mv 65 b) v3 v4 v5 v6 v7 v8 v9) (ht : TextR W base dom v8 text) (hl : text.length ≤ 4096) :
    Calls Tryd.prog 65 #[.pointer (some ⟨b, 0, none⟩), .int .u8 c] W (StepOk base dom b wait ad (lineF text c) W) := by
  obtain ⟨⟨r0, r1, r2, r3, r4, r5, r6, r7, r8, r9⟩, rf⟩ := h.cells
  have f2 := rf 2
  have f8 := rf 8
  obtain ⟨e1, e2⟩ := hx.err
  obtain ⟨A8, c8, rfl⟩ := Kd.R_slice ht
  have HX := Aside0.mk hx
  have HT := Aside0.mk ht
  have HR := Aside0.mk h
  have hlt := blk_lt h
  clear hx ht h rf r0 r1 r3 r4 r5 r6 r7 r9
  have hmf := mf
  by_cases h13 : c = 13
  · have ho : lineF text c = .go (.lineEnd text) := by unfold lineF; rw [if_pos h13]
    rw [ho]
    subst h13
    go_enter Tryd.func65, Tryd.ntmps65
    go_wp2
    go_ret2
    exact ⟨⟨rfl, _, _, _, _, _, _, _, blk_set HR.out 2 _, Kd.R_set HT.out HR.out (by decide) 2 _⟩, (OnlyD.refl _ _ _).set 2 _⟩
  · have h13b : (c == 13) = false := by rw [beq_eq_false_iff_ne]; exact h13
    by_cases hfull : text.length = 4096
    · have ho : lineF text c = .bad 2 := by unfold lineF; rw [if_neg h13, if_pos hfull]
      rw [ho]
      have hfb : ((text.length : Int) == 4096) = true := by rw [beq_iff_eq]; omega
      clear h13 hfull
      go_enter Tryd.func65, Tryd.ntmps65
      go_wp2
      go_quiet (fail)
      go_wp2
      go_ret2
      exact ⟨⟨rfl, _, _, _, _, _, _, _, _, HR.out⟩, (OnlyD.refl _ _ _).drewN _⟩
    · have hfb : ((text.length : Int) == 4096) = false := by rw [beq_eq_false_iff_ne]; omega
      by_cases hbad : (c < 32 ∧ c ≠ 9) ∨ c = 127
      · have ho : lineF text c = .bad 1 := by unfold lineF; rw [if_neg h13, if_neg hfull, if_pos hbad]
        rw [ho]
        have key : (decide (c < 32) = true ∧ (c != 9) = true) ∨ (decide (c < 32) = false ∧ (c == 127) = true) := by
          rcases hbad with ⟨h1, h2⟩ | h1
          · exact .inl ⟨by simp; omega, by rw [bne_iff_ne]; exact h2⟩
          · exact .inr ⟨by simp; omega, by rw [beq_iff_eq]; exact h1⟩
        clear h13 hfull hbad ho
        rcases key with ⟨k1, k2⟩ | ⟨k1, k2⟩
        all_goals
          go_enter Tryd.func65, Tryd.ntmps65
          go_wp2
          go_quiet (fail)
          go_wp2
          go_ret2
          exact ⟨⟨rfl, _, _, _, _, _, _, _, _, HR.out⟩, (OnlyD.refl _ _ _).drewN _⟩
      · have ho : lineF text c = .go (.line (text ++ [c])) := by unfold lineF; rw [if_neg h13, if_neg hfull, if_neg hbad]
        rw [ho]
        have k2 : (c == 127) = false := by rw [beq_eq_false_iff_ne]; omega
        have key : (decide (c < 32) = true ∧ (c != 9) = false) ∨ decide (c < 32) = false := by
          by_cases h1 : c < 32
          · exact .inl ⟨by simp; omega, by rw [bne_eq_false_iff_eq]; omega⟩
          · exact .inr (by simp; omega)
        have hlen : (text.length + 1) * 1 ≤ 140737488355328 := by omega
        clear h13 hfull hbad ho
        rcases key with ⟨k1, k3⟩ | k1
        all_goals
          go_enter Tryd.func65, Tryd.ntmps65
          go_wp2_with ((with_reducible refine gate_builtin (b := .append) (xs := #[.tmp 38, .tmp 40]) rfl ?_); at_builtin; refine Kd.R_append (Kd.int .u8) (w0 := W) base rfl (.tmp 38) (.tmp 40) 90 5 (.int .u8 0) 1 rfl Tryd.underlying90 info5 rfl (by decide) (by omega) (.slice A8 text.length c8) text c [.int .u8 c] dom (fun _ => False) rfl rfl rfl (fun _ hk => hk.elim) HX.out.new HT.out (Below.refl _ _) HX.out.base hlen ?_; intro v5 w5 ho5 hb5 hg5 hat5; obtain ⟨A5, cp5, e5⟩ := slice_snoc ho5; subst e5; have HO5 := Aside0.mk ho5; have HG5 := Aside0.mk (OnlyD.grown (OnlyD.refl b dom W) hg5 HT.out.1); have HR5 := Aside0.mk (show RD w5 b _ _ _ _ _ _ _ _ _ _ from blk_grown HR.out hg5 (Kd.R_ne HT.out HR.out (by decide))); obtain ⟨⟨_, _, _, _, _, _, _, _, q8, _⟩, qf⟩ := HR5.out.cells; have qf8 := qf 8; clear ho5 hb5 hg5 hat5 qf)
          go_ret2
          exact ⟨⟨rfl, _, _, _, _, _, _, _, blk_set HR5.out 8 _, Kd.R_set HO5.out HR5.out (by decide) 8 _⟩, HG5.out.set 8 _⟩
end Go.Proofs.YtbdfjiobegadjaaDoor.Rd
/- The walks of wire's Reader, step by step: the beginning, numbers, words. -/
namespace Go.Proofs.YtbdfjiobegadjaaDoor.Rd
open Go Go.RowKit Go.Proofs.YtbdfjiobegadjaaDoor.Tk Go.Proofs.YtbdfjiobegadjaaDoor.PWireMemory Go.Proofs.YtbdfjiobegadjaaDoorW.PrintWords Go.Proofs.YtbdfjiobegadjaaDoorW.PrintLast Go.Proofs.YtbdfjiobegadjaaDoorW.PrintMore
set_option linter.unusedVariables false
set_option linter.unusedSectionVars false
set_option linter.unusedSimpArgs false
theorem StepEnd.form {base : Nat} {dom : Nat → Prop} {b : Nat} {wait : ByteArray} {ad : Nat → Addr} {e : Ending} {W' : World} {o : Out} (h : StepEnd base dom b wait ad e W' o) : ∃ wb er, e = .returned (.tuple #[.bool wb, er]) := by
  cases o <;> exact ⟨_, _, h.1⟩
theorem thin_set {W : World} {base b : Nat} {dom : Nat → Prop} {v0 v1 v2 v3 v4 v5 v6 v7 v8 v9 w3 w6 w9 : Value} {t : Th} (h : ThIn W base dom b w3 w6 w9 t) (hr : RD W b v0 v1 v2 v3 v4 v5 v6 v7 v8 v9) (j : Nat) (v : Value) : ThIn (W.setCell ⟨b, j, none⟩ v) base dom b w3 w6 w9 t := by
  cases t with
  | counted => exact h
  | sized left list => exact ⟨h.1, h.2.1, Kd.R_set h.2.2 hr (by decide) j v⟩
section
variable (N base b : Nat) (dom : Nat → Prop) (ad : Nat → Addr) (W : World) (hx : Cx N base b dom ad W) (wait : ByteArray) (v2 v3 v4 v5 v6 v7 v8 v9 : Value)
theorem text_nil (W : World) : TextR W base dom (.slice none 0 0) [] := Kd.R_nil _ _ _ _ _
theorem list_nil (W : World) : ListR W base dom (.slice none 0 0) [] := Kd.R_nil _ _ _ _ _
include hx
set_option maxHeartbeats 1000000 in
set_option maxRecDepth 100000 in
theorem start_any (c : Int) (hc0 : 0 ≤ c) (hc1 : c ≤ 255) (h : RD W b (.string wait) .nilIface (mv 37 b) v3 v4 v5 v6 v7 v8 v9) :
    Calls Tryd.prog 37 #[.pointer (some ⟨b, 0, none⟩), .int .u8 c] W (StepOk base dom b wait ad (stepF .start c) W) := by
  obtain ⟨⟨r0, r1, r2, r3, r4, r5, r6, r7, r8, r9⟩, rf⟩ := h.cells
  have HX := Aside0.mk hx
  have HR := Aside0.mk h
  have hlt := blk_lt h
  have hmf := mf
  clear hx h r0 r1 r6 r7
  by_cases h42 : c = 42
  · have ho : stepF .start c = .go (.num .counted 0 0) := by rw [stepF, if_pos h42]
    rw [ho]
    subst h42
    go_enter Tryd.func37, Tryd.ntmps37
    go_wp2
    all_goals try (go_end0; go_wp2)
    go_ret2
    refine ⟨⟨rfl, _, _, _, _, _, _, _, blk_set (blk_set (blk_set (blk_set (blk_set (blk_set HR.out 8 _) 9 _) 4 _) 5 _) 3 _) 2 _, rfl, rfl, rfl, rfl⟩, ?_⟩
    exact ((((((OnlyD.refl _ _ _).set 8 _).set 9 _).set 4 _).set 5 _).set 3 _).set 2 _
  · have ho : stepF .start c = lineF [] c := by rw [stepF, if_neg h42]
    rw [ho]
    have h42b : (c == 42) = false := by rw [beq_eq_false_iff_ne]; exact h42
    clear h42 ho
    go_enter Tryd.func37, Tryd.ntmps37
    go_wp2_with fail
    go_at_call 65
    refine (line_any N base b dom ad _ (HX.out.only ((((OnlyD.refl _ _ _).set 8 _).set 9 _).set 2 _)) wait _ _ _ _ _ _ _ [] c hc0 hc1 (blk_set (blk_set (blk_set HR.out 8 _) 9 _) 2 _) (text_nil base dom _) (by simp)).mono ?_
    rintro e w1 ⟨h1, h2⟩
    obtain ⟨wb, er, rfl⟩ := h1.form
    have H1 := Aside0.mk h1
    clear h1
    go_wp2_with fail
    go_ret2
    exact ⟨H1.out, ((((OnlyD.refl _ _ _).set 8 _).set 9 _).set 2 _).trans h2⟩
set_option maxHeartbeats 1000000 in
set_option maxRecDepth 100000 in
theorem digit_any (t : Th) (n many : Nat) (c : Int) (hc0 : 0 ≤ c) (hc1 : c ≤ 255) (h : RD W b (.string wait) .nilIface (mv 77 b) v3 (.int .i64 n) (.int .i64 many) v6 v7 v8 v9) (ht : ThIn W base dom b v3 v6 v9 t) (hok : (St.num t n many).ok) :
    Calls Tryd.prog 77 #[.pointer (some ⟨b, 0, none⟩), .int .u8 c] W (StepOk base dom b wait ad (stepF (.num t n many) c) W) := by
  obtain ⟨⟨r0, r1, r2, r3, r4, r5, r6, r7, r8, r9⟩, rf⟩ := h.cells
  obtain ⟨e1, e2⟩ := hx.err
  have HR := Aside0.mk h
  have HT := Aside0.mk ht
  have hlt := blk_lt h
  obtain ⟨_, hn, hm⟩ := hok
  have hn6 : n < 1000000 := Nat.lt_of_lt_of_le hn (Nat.pow_le_pow_right (by omega) hm)
  have hmf := mf
  clear hx h ht r0 r1 r3 r6 r7 r8 r9 hn
  by_cases h13 : c = 13 ∧ 0 < many
  · have ho : stepF (.num t n many) c = .go (.numd t n) := by rw [stepF, if_pos h13]
    rw [ho]
    obtain ⟨rfl, hm0⟩ := h13
    have hm0' : (0 : Int) < (many : Int) := by omega
    go_enter Tryd.func77, Tryd.ntmps77
    go_wp2
    go_ret2
    exact ⟨⟨rfl, _, _, _, _, _, _, _, blk_set HR.out 2 _, rfl, thin_set HT.out HR.out 2 _⟩, (OnlyD.refl _ _ _).set 2 _⟩
  · have key : (c == 13) = false ∨ ((c == 13) = true ∧ ¬ (0 : Int) < (many : Int)) := by
      by_cases h : c = 13
      · exact .inr ⟨by rw [beq_iff_eq]; exact h, by omega⟩
      · exact .inl (by rw [beq_eq_false_iff_ne]; exact h)
    by_cases hbad : c < 48 ∨ 57 < c ∨ (many = 1 ∧ n = 0) ∨ many = 6
    · have ho : stepF (.num t n many) c = .bad 1 := by rw [stepF, if_neg h13, if_pos hbad]
      rw [ho]
      have key2 : decide (c < 48) = true ∨ (decide (c < 48) = false ∧ decide (57 < c) = true) ∨ (decide (c < 48) = false ∧ decide (57 < c) = false ∧ ((many : Int) == 1) = true ∧ ((n : Int) == 0) = true) ∨
          (decide (c < 48) = false ∧ decide (57 < c) = false ∧ ((many : Int) == 1) = false ∧ ((many : Int) == 6) = true) := by
        simp only [decide_eq_true_eq, decide_eq_false_iff_not, beq_iff_eq, beq_eq_false_iff_ne]
        omega
      clear h13 hbad ho
      rcases key2 with k1 | ⟨k1, k2⟩ | ⟨k1, k2, k3, k4⟩ | ⟨k1, k2, k3, k4⟩
      all_goals
        rcases key with k5 | ⟨k5, k6⟩
        all_goals
          go_enter Tryd.func77, Tryd.ntmps77
          go_wp2
          go_quiet (fail)
          go_wp2
          go_ret2
          exact ⟨⟨rfl, _, _, _, _, _, _, _, _, HR.out⟩, (OnlyD.refl _ _ _).drewN _⟩
    · have ho : stepF (.num t n many) c = .go (.num t (10 * n + (c - 48).toNat) (many + 1)) := by rw [stepF, if_neg h13, if_neg hbad]
      rw [ho]
      have k1 : decide (c < 48) = false := by simp; omega
      have k2 : decide (57 < c) = false := by simp; omega
      have k4 : ((many : Int) == 6) = false := by rw [beq_eq_false_iff_ne]; omega
      have k7 : (48 : Int) ≤ c := by omega
      have k8 : c ≤ 57 := by omega
      have key3 : ((many : Int) == 1) = false ∨ (((many : Int) == 1) = true ∧ ((n : Int) == 0) = false) := by
        simp only [beq_iff_eq, beq_eq_false_iff_ne]
        omega
      have he1 := Lib.hid (show (10 * (n : Int) + (c - 48)) = ((10 * n + (c - 48).toNat : Nat) : Int) by omega)
      clear h13 hbad ho
      rcases key with k5 | ⟨k5, k6⟩
      all_goals
        rcases key3 with k9 | ⟨k9, k10⟩
        all_goals
          go_enter Tryd.func77, Tryd.ntmps77
          go_wp2
          go_ret2
          rw [he1.out]
          exact ⟨⟨rfl, _, _, _, _, _, _, _, blk_set (blk_set HR.out 4 _) 5 _, rfl, rfl, thin_set (thin_set HT.out HR.out 4 _) (blk_set HR.out 4 _) 5 _⟩, ((OnlyD.refl _ _ _).set 4 _).set 5 _⟩
end
end Go.Proofs.YtbdfjiobegadjaaDoor.Rd
/- The walks of wire's Reader, step by step: what is done with a number, dollars, a word's bytes and its end. -/
namespace Go.Proofs.YtbdfjiobegadjaaDoor.Rd
open Go Go.RowKit Go.Proofs.YtbdfjiobegadjaaDoor.Tk Go.Proofs.YtbdfjiobegadjaaDoor.PWireMemory Go.Proofs.YtbdfjiobegadjaaDoorW.PrintWords Go.Proofs.YtbdfjiobegadjaaDoorW.PrintLast Go.Proofs.YtbdfjiobegadjaaDoorW.PrintMore
set_option linter.unusedVariables false
set_option linter.unusedSectionVars false
set_option linter.unusedSimpArgs false
def ThenEnd (base : Nat) (dom : Nat → Prop) (b : Nat) (wait : ByteArray) (ad : Nat → Addr) (e : Ending) (W' : World) : Out → Prop
  | .go s => e = .returned .nilIface ∧ Rep W' base dom b wait s
  | .whole l => False
  | .bad k => e = .returned (ev ad k) ∧ RepAny W' b wait
structure ThenOk (base : Nat) (dom : Nat → Prop) (b : Nat) (wait : ByteArray) (ad : Nat → Addr) (o : Out) (W : World) (e : Ending) (W' : World) : Prop where
  end_ : ThenEnd base dom b wait ad e W' o
  only : OnlyD b dom W W'
section
variable (N base b : Nat) (dom : Nat → Prop) (ad : Nat → Addr) (W : World) (hx : Cx N base b dom ad W) (wait : ByteArray) (v2 v3 v4 v5 v6 v7 v8 v9 : Value)
include hx
set_option maxHeartbeats 1000000 in
set_option maxRecDepth 100000 in
theorem counted_any (n : Nat) (h : RD W b (.string wait) .nilIface v2 v3 v4 v5 v6 v7 v8 v9) (h9 : v9 = .slice none 0 0) :
    Calls Tryd.prog 64 #[.pointer (some ⟨b, 0, none⟩), .int .i64 n] W (ThenOk base dom b wait ad (thenF .counted n) W) := by
  subst h9
  obtain ⟨⟨r0, r1, r2, r3, r4, r5, r6, r7, r8, r9⟩, rf⟩ := h.cells
  obtain ⟨e1, e2⟩ := hx.err
  have HR := Aside0.mk h
  have hlt := blk_lt h
  have hmf := mf
  clear hx h r0 r1 r3 r4 r5 r7 r8 r9
  by_cases h0 : n = 0
  · have ho : thenF .counted n = .bad 1 := by rw [thenF, if_pos h0]
    rw [ho]
    subst h0
    go_enter Tryd.func64, Tryd.ntmps64
    go_wp2
    go_ret
    exact ⟨⟨rfl, _, _, _, _, _, _, _, _, HR.out⟩, OnlyD.refl _ _ _⟩
  · have k0 : ((n : Int) == 0) = false := by rw [beq_eq_false_iff_ne]; omega
    by_cases h16 : 16 < n
    · have ho : thenF .counted n = .bad 2 := by rw [thenF, if_neg h0, if_pos h16]
      rw [ho]
      have k1 : (16 : Int) < (n : Int) := by omega
      clear h0 h16
      go_enter Tryd.func64, Tryd.ntmps64
      go_wp2
      go_ret
      exact ⟨⟨rfl, _, _, _, _, _, _, _, _, HR.out⟩, OnlyD.refl _ _ _⟩
    · have ho : thenF .counted n = .go (.dollar n []) := by rw [thenF, if_neg h0, if_neg h16]
      rw [ho]
      have k1 : ¬ (16 : Int) < (n : Int) := by omega
      clear h0 h16
      go_enter Tryd.func64, Tryd.ntmps64
      go_wp2
      go_ret
      exact ⟨⟨rfl, _, _, _, _, _, _, _, blk_set (blk_set HR.out 6 _) 2 _, rfl, list_nil base dom _⟩, ((OnlyD.refl _ _ _).set 6 _).set 2 _⟩
set_option maxHeartbeats 1000000 in
set_option maxRecDepth 100000 in
theorem sized_any (left n : Nat) (list : List ByteArray) (h : RD W b (.string wait) .nilIface v2 v3 v4 v5 (.int .i64 left) v7 v8 v9) (hl : ListR W base dom v9 list) :
    Calls Tryd.prog 85 #[.pointer (some ⟨b, 0, none⟩), .int .i64 n] W (ThenOk base dom b wait ad (thenF (.sized left list) n) W) := by
  obtain ⟨⟨r0, r1, r2, r3, r4, r5, r6, r7, r8, r9⟩, rf⟩ := h.cells
  obtain ⟨e1, e2⟩ := hx.err
  have HR := Aside0.mk h
  have HL := Aside0.mk hl
  have hlt := blk_lt h
  have hmf := mf
  clear hx h hl r0 r1 r3 r4 r5 r6 r9
  by_cases hbig : 65536 < n
  · have ho : thenF (.sized left list) n = .bad 2 := by rw [thenF, if_pos hbig]
    rw [ho]
    have k1 : (65536 : Int) < (n : Int) := by omega
    clear hbig
    go_enter Tryd.func85, Tryd.ntmps85
    go_wp2
    go_ret
    exact ⟨⟨rfl, _, _, _, _, _, _, _, _, HR.out⟩, OnlyD.refl _ _ _⟩
  · have k1 : ¬ (65536 : Int) < (n : Int) := by omega
    by_cases h0 : n = 0
    · have ho : thenF (.sized left list) n = .go (.bodyEnd left list []) := by rw [thenF, if_neg hbig, if_pos h0]
      rw [ho]
      subst h0
      clear hbig
      go_enter Tryd.func85, Tryd.ntmps85
      go_wp2
      go_ret
      exact ⟨⟨rfl, _, _, _, _, _, _, _, blk_set (blk_set (blk_set (blk_set HR.out 7 _) 8 _) 2 _) 2 _, rfl, Kd.R_set (Kd.R_set (Kd.R_set (Kd.R_set HL.out HR.out (by decide) 7 _) (blk_set HR.out 7 _) (by decide) 8 _) (blk_set (blk_set HR.out 7 _) 8 _) (by decide) 2 _) (blk_set (blk_set (blk_set HR.out 7 _) 8 _) 2 _) (by decide) 2 _, text_nil base dom _⟩, ((((OnlyD.refl _ _ _).set 7 _).set 8 _).set 2 _).set 2 _⟩
    · have k0 : ((n : Int) == 0) = false := by rw [beq_eq_false_iff_ne]; omega
      have ho : thenF (.sized left list) n = .go (.body left n list []) := by rw [thenF, if_neg hbig, if_neg h0]
      rw [ho]
      clear hbig h0
      go_enter Tryd.func85, Tryd.ntmps85
      go_wp2
      go_ret
      exact ⟨⟨rfl, _, _, _, _, _, _, _, blk_set (blk_set (blk_set HR.out 7 _) 8 _) 2 _, rfl, rfl, Kd.R_set (Kd.R_set (Kd.R_set HL.out HR.out (by decide) 7 _) (blk_set HR.out 7 _) (by decide) 8 _) (blk_set (blk_set HR.out 7 _) 8 _) (by decide) 2 _, text_nil base dom _⟩, (((OnlyD.refl _ _ _).set 7 _).set 8 _).set 2 _⟩
end
end Go.Proofs.YtbdfjiobegadjaaDoor.Rd
/- The walks of wire's Reader, step by step: the end of a number's line, words, a line's end. -/
namespace Go.Proofs.YtbdfjiobegadjaaDoor.Rd
open Go Go.RowKit Go.Proofs.YtbdfjiobegadjaaDoor.Tk Go.Proofs.YtbdfjiobegadjaaDoor.PWireMemory Go.Proofs.YtbdfjiobegadjaaDoorW.PrintWords Go.Proofs.YtbdfjiobegadjaaDoorW.PrintLast Go.Proofs.YtbdfjiobegadjaaDoorW.PrintMore
set_option linter.unusedVariables false
set_option linter.unusedSectionVars false
set_option linter.unusedSimpArgs false
theorem ThenEnd.form {base : Nat} {dom : Nat → Prop} {b : Nat} {wait : ByteArray} {ad : Nat → Addr} {e : Ending} {W' : World} {o : Out} (h : ThenEnd base dom b wait ad e W' o) :
    (∃ s, o = .go s ∧ e = .returned .nilIface ∧ Rep W' base dom b wait s) ∨ (∃ k, o = .bad k ∧ e = .returned (ev ad k) ∧ RepAny W' b wait) := by
  cases o with
  | go s => exact .inl ⟨s, rfl, h.1, h.2⟩
  | whole l => exact h.elim
  | bad k => exact .inr ⟨k, rfl, h.1, h.2⟩
theorem thenF_whole : ∀ (t : Th) (n : Nat) (l : List ByteArray), thenF t n ≠ .whole l
  | .counted, n, l => by rw [thenF]; split <;> (try split) <;> simp
  | .sized _ _, n, l => by rw [thenF]; split <;> (try split) <;> simp
theorem OnlyD.from_drew {b : Nat} {dom : Nat → Prop} {W W' : World} (h : OnlyD b dom W.drew W') : OnlyD b dom W W' := ⟨h.os, h.tape, h.output, h.size, h.keep⟩
theorem Cx.drew {N base b : Nat} {dom : Nat → Prop} {ad : Nat → Addr} {W : World} (h : Cx N base b dom ad W) : Cx N base b dom ad W.drew := h.only (OnlyD.refl _ _ _).drew
section
variable (N base b : Nat) (dom : Nat → Prop) (ad : Nat → Addr) (W : World) (hx : Cx N base b dom ad W) (wait : ByteArray) (v2 v3 v4 v5 v6 v7 v8 v9 : Value)
include hx
set_option maxHeartbeats 1000000 in
set_option maxRecDepth 100000 in
theorem numbered_any (t : Th) (n : Nat) (c : Int) (hc0 : 0 ≤ c) (hc1 : c ≤ 255) (h : RD W b (.string wait) .nilIface (mv 84 b) v3 (.int .i64 n) v5 v6 v7 v8 v9) (ht : ThIn W base dom b v3 v6 v9 t) :
    Calls Tryd.prog 84 #[.pointer (some ⟨b, 0, none⟩), .int .u8 c] W (StepOk base dom b wait ad (stepF (.numd t n) c) W) := by
  obtain ⟨⟨r0, r1, r2, r3, r4, r5, r6, r7, r8, r9⟩, rf⟩ := h.cells
  obtain ⟨e1, e2⟩ := hx.err
  have HR := Aside0.mk h
  have HT := Aside0.mk ht
  have HX := Aside0.mk hx
  have hlt := blk_lt h
  have hmf := mf
  clear hx h ht r0 r1 r2 r5 r6 r7 r8 r9
  by_cases h10 : c = 10
  · subst h10
    have ho : stepF (.numd t n) 10 = thenF t n := by rw [stepF, if_neg (by simp)]
    rw [ho]
    have k1 : ((10 : Int) != 10) = false := rfl
    clear ho
    cases t with
    | counted =>
      obtain ⟨rfl, rfl⟩ := HT.out
      cases hk : thenF .counted n with
      | go s =>
        have K1 := Lib.hid hk
        clear hk
        go_enter Tryd.func84, Tryd.ntmps84
        go_wp2_with fail
        go_region_law (go_simp; go_at_call 64; refine (counted_any N base b dom ad _ HX.out.drew wait _ _ _ _ _ _ _ _ n (by exact HR.out) rfl).mono ?_; rintro e w1 ⟨q1, q2⟩; have H2 := Aside0.mk (OnlyD.from_drew q2); rw [K1.out] at q1; obtain ⟨rfl, q3⟩ := q1; have H3 := Aside0.mk q3; clear q2 q3)
        all_goals
          go_wp2_with fail
          go_ret2
          exact ⟨⟨rfl, H3.out⟩, H2.out⟩
      | whole l => exact absurd hk (thenF_whole _ _ _)
      | bad k =>
        have K1 := Lib.hid hk
        clear hk
        go_enter Tryd.func84, Tryd.ntmps84
        go_wp2_with fail
        go_region_law (go_simp; go_at_call 64; refine (counted_any N base b dom ad _ HX.out.drew wait _ _ _ _ _ _ _ _ n (by exact HR.out) rfl).mono ?_; rintro e w1 ⟨q1, q2⟩; have H2 := Aside0.mk (OnlyD.from_drew q2); rw [K1.out] at q1; obtain ⟨rfl, q3⟩ := q1; have H3 := Aside0.mk q3; clear q2 q3)
        all_goals
          go_wp2_with fail
          go_ret2
          exact ⟨⟨rfl, H3.out⟩, H2.out⟩
    | sized left list =>
      obtain ⟨rfl, rfl, hl⟩ := HT.out
      have HL := Aside0.mk hl
      clear hl HT
      cases hk : thenF (.sized left list) n with
      | go s =>
        have K1 := Lib.hid hk
        clear hk
        go_enter Tryd.func84, Tryd.ntmps84
        go_wp2_with fail
        go_region_law (go_simp; go_at_call 85; refine (sized_any N base b dom ad _ HX.out.drew wait _ _ _ _ _ _ _ left n list (by exact HR.out) (by exact HL.out)).mono ?_; rintro e w1 ⟨q1, q2⟩; have H2 := Aside0.mk (OnlyD.from_drew q2); rw [K1.out] at q1; obtain ⟨rfl, q3⟩ := q1; have H3 := Aside0.mk q3; clear q2 q3)
        all_goals
          go_wp2_with fail
          go_ret2
          exact ⟨⟨rfl, H3.out⟩, H2.out⟩
      | whole l => exact absurd hk (thenF_whole _ _ _)
      | bad k =>
        have K1 := Lib.hid hk
        clear hk
        go_enter Tryd.func84, Tryd.ntmps84
        go_wp2_with fail
        go_region_law (go_simp; go_at_call 85; refine (sized_any N base b dom ad _ HX.out.drew wait _ _ _ _ _ _ _ left n list (by exact HR.out) (by exact HL.out)).mono ?_; rintro e w1 ⟨q1, q2⟩; have H2 := Aside0.mk (OnlyD.from_drew q2); rw [K1.out] at q1; obtain ⟨rfl, q3⟩ := q1; have H3 := Aside0.mk q3; clear q2 q3)
        all_goals
          go_wp2_with fail
          go_ret2
          exact ⟨⟨rfl, H3.out⟩, H2.out⟩
  · have ho : stepF (.numd t n) c = .bad 1 := by rw [stepF, if_pos h10]
    rw [ho]
    have k1 : (c != 10) = true := by rw [bne_iff_ne]; exact h10
    clear h10
    go_enter Tryd.func84, Tryd.ntmps84
    go_wp2
    go_quiet (fail)
    go_wp2
    go_ret2
    exact ⟨⟨rfl, _, _, _, _, _, _, _, _, HR.out⟩, (OnlyD.refl _ _ _).drewN _⟩
set_option maxHeartbeats 1000000 in
set_option maxRecDepth 100000 in
theorem dollar_any (left : Nat) (list : List ByteArray) (c : Int) (hc0 : 0 ≤ c) (hc1 : c ≤ 255) (h : RD W b (.string wait) .nilIface (mv 78 b) v3 v4 v5 (.int .i64 left) v7 v8 v9) (hl : ListR W base dom v9 list) :
    Calls Tryd.prog 78 #[.pointer (some ⟨b, 0, none⟩), .int .u8 c] W (StepOk base dom b wait ad (stepF (.dollar left list) c) W) := by
  obtain ⟨⟨r0, r1, r2, r3, r4, r5, r6, r7, r8, r9⟩, rf⟩ := h.cells
  obtain ⟨e1, e2⟩ := hx.err
  have HR := Aside0.mk h
  have HL := Aside0.mk hl
  have hlt := blk_lt h
  have hmf := mf
  clear hx h hl r0 r1 r6 r7 r8 r9
  by_cases h36 : c = 36
  · subst h36
    have ho : stepF (.dollar left list) 36 = .go (.num (.sized left list) 0 0) := by rw [stepF, if_neg (by simp)]
    rw [ho]
    clear ho
    go_enter Tryd.func78, Tryd.ntmps78
    go_wp2
    all_goals try (go_end0; go_wp2)
    go_ret2
    exact ⟨⟨rfl, _, _, _, _, _, _, _, blk_set (blk_set (blk_set (blk_set HR.out 4 _) 5 _) 3 _) 2 _, rfl, rfl, rfl, rfl, Kd.R_set (Kd.R_set (Kd.R_set (Kd.R_set HL.out HR.out (by decide) 4 _) (blk_set HR.out 4 _) (by decide) 5 _) (blk_set (blk_set HR.out 4 _) 5 _) (by decide) 3 _) (blk_set (blk_set (blk_set HR.out 4 _) 5 _) 3 _) (by decide) 2 _⟩, ((((OnlyD.refl _ _ _).set 4 _).set 5 _).set 3 _).set 2 _⟩
  · have ho : stepF (.dollar left list) c = .bad 1 := by rw [stepF, if_pos h36]
    rw [ho]
    have k1 : (c != 36) = true := by rw [bne_iff_ne]; exact h36
    clear h36 ho
    go_enter Tryd.func78, Tryd.ntmps78
    go_wp2
    go_quiet (fail)
    go_wp2
    go_ret2
    exact ⟨⟨rfl, _, _, _, _, _, _, _, _, HR.out⟩, (OnlyD.refl _ _ _).drewN _⟩
set_option maxHeartbeats 1000000 in
set_option maxRecDepth 100000 in
theorem bodyEnd_any (left : Nat) (list : List ByteArray) (text : List Int) (c : Int) (hc0 : 0 ≤ c) (hc1 : c ≤ 255) (h : RD W b (.string wait) .nilIface (mv 94 b) v3 v4 v5 (.int .i64 left) v7 v8 v9) (hl : ListR W base dom v9 list) (ht : TextR W base dom v8 text) :
    Calls Tryd.prog 94 #[.pointer (some ⟨b, 0, none⟩), .int .u8 c] W (StepOk base dom b wait ad (stepF (.bodyEnd left list text) c) W) := by
  obtain ⟨⟨r0, r1, r2, r3, r4, r5, r6, r7, r8, r9⟩, rf⟩ := h.cells
  obtain ⟨e1, e2⟩ := hx.err
  have HR := Aside0.mk h
  have HL := Aside0.mk hl
  have HT := Aside0.mk ht
  have hlt := blk_lt h
  have hmf := mf
  clear hx h hl ht r0 r1 r3 r4 r5 r6 r7 r8 r9
  by_cases h13 : c = 13
  · subst h13
    have ho : stepF (.bodyEnd left list text) 13 = .go (.worded left list text) := by rw [stepF, if_neg (by simp)]
    rw [ho]
    clear ho
    go_enter Tryd.func94, Tryd.ntmps94
    go_wp2
    go_ret2
    exact ⟨⟨rfl, _, _, _, _, _, _, _, blk_set HR.out 2 _, rfl, Kd.R_set HL.out HR.out (by decide) 2 _, Kd.R_set HT.out HR.out (by decide) 2 _⟩, (OnlyD.refl _ _ _).set 2 _⟩
  · have ho : stepF (.bodyEnd left list text) c = .bad 1 := by rw [stepF, if_pos h13]
    rw [ho]
    have k1 : (c != 13) = true := by rw [bne_iff_ne]; exact h13
    clear h13 ho
    go_enter Tryd.func94, Tryd.ntmps94
    go_wp2
    go_quiet (fail)
    go_wp2
    go_ret2
    exact ⟨⟨rfl, _, _, _, _, _, _, _, _, HR.out⟩, (OnlyD.refl _ _ _).drewN _⟩
end
end Go.Proofs.YtbdfjiobegadjaaDoor.Rd
