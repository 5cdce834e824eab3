/- The walk of wire's writer's answer. -/
import Derived.Test.YtbdfjiobegadjaaDoorMay
import Derived.Test.YtbdfjiobegadjaaDoorWriter2
namespace Go.Proofs.YtbdfjiobegadjaaDoor.Wr
open Go Go.RowKit Go.Proofs.YtbdfjiobegadjaaDoor.Tk Go.Proofs.YtbdfjiobegadjaaDoor.PWireMemory Go.Proofs.YtbdfjiobegadjaaDoorW.PrintWords Go.Proofs.YtbdfjiobegadjaaDoorW.PrintLast Go.Proofs.YtbdfjiobegadjaaDoorW.PrintMore
set_option linter.unusedVariables false
set_option linter.unusedSectionVars false
set_option linter.unusedSimpArgs false
theorem cell_move {w w' : World} {p : Addr} {v : Value} (h : w.cell? p = some v) (hb : Below w.heap.size w w') : w'.cell? p = some v := by
  have hlt : p.block < w.heap.size := by
    by_cases hl : p.block < w.heap.size
    · exact hl
    · exfalso
      simp only [World.cell?] at h
      rw [Array.getElem?_eq_none (by omega)] at h
      cases h
  rw [← h]
  simp only [World.cell?]
  rw [hb.block _ hlt]
theorem num58 (B b : Nat) (l : List UInt8) (n : Int) (W : World) (hT : Tab B W) (h : Wb B b l W) (h0 : -9223372036854775808 ≤ n) (h1 : n ≤ 9223372036854775807)
    (hlen : l.length + 30 ≤ 140737488355328) (hB : B ≤ W.heap.size) :
    Calls Tryd.prog 40 #[.pointer (some ⟨b, 0, none⟩), .int .u8 58, .int .i64 n] W (WKeep B b (l ++ (58 :: (Lib.itoa n ++ [13, 10]))) W) := number_any_k B b l 58 n W hT h h0 h1 hlen hB
theorem num42' (B b : Nat) (l : List UInt8) (n : Int) (W : World) (hT : Tab B W) (h : Wb B b l W) (h0 : -9223372036854775808 ≤ n) (h1 : n ≤ 9223372036854775807)
    (hlen : l.length + 30 ≤ 140737488355328) (hB : B ≤ W.heap.size) :
    Calls Tryd.prog 40 #[.pointer (some ⟨b, 0, none⟩), .int .u8 42, .int .i64 n] W (WKeep B b (l ++ (42 :: (Lib.itoa n ++ [13, 10]))) W) := number_any_k B b l 42 n W hT h h0 h1 hlen hB
theorem line_cat (o : List UInt8) (t : ByteArray) (c : UInt8) : o ++ ((⟨#[c]⟩ : ByteArray) ++ t ++ ⟨#[13, 10]⟩).data.toList = o ++ (c :: (t.data.toList ++ [13, 10])) := by simp
section
variable (B b : Nat) (o : List UInt8) (W : World) (hT : Tab B W) (h : Wb B b o W) (hB : B ≤ W.heap.size) (A : Option Addr) (c : Nat)
include hT h hB
set_option maxHeartbeats 2000000 in
theorem w_num (n : Int) (h0 : -9223372036854775808 ≤ n) (h1 : n ≤ 9223372036854775807) (hlen : o.length + 60 ≤ 140737488355328) :
    Calls Tryd.prog 45 #[.pointer (some ⟨b, 0, none⟩), agv ⟨3, n, ⟨#[]⟩, []⟩ A c] W (WKeep B b (o ++ leafB ⟨3, n, ⟨#[]⟩, []⟩) W) := by
  have HB := Aside0.mk ((Below.refl B W).alloc hB (ago ⟨3, n, ⟨#[]⟩, []⟩ A c))
  have HW := Aside0.mk (wb_below h (ago_below W ⟨3, n, ⟨#[]⟩, []⟩ A c))
  have HT := Lib.hid hT
  clear hT h
  go_enter Tryd.func45, Tryd.ntmps45
  go_wp2_with fail
  go_at_call 40
  refine (num58 B b o n _ (by exact HT.out.step HB.out) (by exact HW.out) h0 h1 (by omega) (by simp; omega)).mono ?_
  rintro _ w1 ⟨rfl, ha1, hb1, hk1⟩
  have HA1 := Aside0.mk ha1
  have HB1 := Aside0.mk (HB.out.trans hb1)
  have HK1 := Aside0.mk ((Bld.keep_below (ago_below W ⟨3, n, ⟨#[]⟩, []⟩ A c)).trans hk1)
  clear ha1 hb1 hk1
  go_wp2_with fail
  go_end0
  exact ⟨rfl, HA1.out, HB1.out, HK1.out⟩
set_option maxHeartbeats 2000000 in
theorem w_bulk (t : ByteArray) (hlen : o.length + t.size + 60 ≤ 140737488355328) :
    Calls Tryd.prog 45 #[.pointer (some ⟨b, 0, none⟩), agv ⟨4, 0, t, []⟩ A c] W (WKeep B b (o ++ leafB ⟨4, 0, t, []⟩) W) := by
  have HB := Aside0.mk ((Below.refl B W).alloc hB (ago ⟨4, 0, t, []⟩ A c))
  have HW := Aside0.mk (wb_below h (ago_below W ⟨4, 0, t, []⟩ A c))
  have HT := Lib.hid hT
  clear hT h
  go_enter Tryd.func45, Tryd.ntmps45
  go_wp2_with fail
  go_at_call 41
  refine (wbulk_any_k B b o t _ (by exact HT.out.step HB.out) (by exact HW.out) hlen (by simp; omega)).mono ?_
  rintro _ w1 ⟨rfl, ha1, hb1, hk1⟩
  have HA1 := Aside0.mk ha1
  have HB1 := Aside0.mk (HB.out.trans hb1)
  have HK1 := Aside0.mk ((Bld.keep_below (ago_below W ⟨4, 0, t, []⟩ A c)).trans hk1)
  clear ha1 hb1 hk1
  go_wp2_with fail
  go_end0
  exact ⟨rfl, HA1.out, HB1.out, HK1.out⟩
set_option maxHeartbeats 2000000 in
theorem w_none (hlen : o.length + 60 ≤ 140737488355328) :
    Calls Tryd.prog 45 #[.pointer (some ⟨b, 0, none⟩), agv ⟨5, 0, ⟨#[]⟩, []⟩ A c] W (WKeep B b (o ++ leafB ⟨5, 0, ⟨#[]⟩, []⟩) W) := by
  have HB := Aside0.mk ((Below.refl B W).alloc hB (ago ⟨5, 0, ⟨#[]⟩, []⟩ A c))
  have HW := Aside0.mk (wb_below h (ago_below W ⟨5, 0, ⟨#[]⟩, []⟩ A c))
  have HT := Lib.hid hT
  clear hT h
  go_enter Tryd.func45, Tryd.ntmps45
  go_wp2_with fail
  go_at_call 71
  refine (writeS_k B b o ⟨#[36, 45, 49, 13, 10]⟩ _ (by exact HW.out) (by show o.length + 5 ≤ _; omega) (by simp; omega)).mono ?_
  rintro _ w1 ⟨rfl, ha1, hb1, hk1⟩
  have HA1 := Aside0.mk ha1
  have HB1 := Aside0.mk (HB.out.trans hb1)
  have HK1 := Aside0.mk ((Bld.keep_below (ago_below W ⟨5, 0, ⟨#[]⟩, []⟩ A c)).trans hk1)
  clear ha1 hb1 hk1
  go_wp2_with fail
  go_end0
  exact ⟨rfl, HA1.out, HB1.out, HK1.out⟩
set_option maxRecDepth 100000 in
set_option maxHeartbeats 1000000 in
theorem w_line1 (t : ByteArray) (ht : t.size ≤ 4096) (hlen : o.length + t.size + 60 ≤ 140737488355328) :
    Calls Tryd.prog 45 #[.pointer (some ⟨b, 0, none⟩), agv ⟨1, 0, t, []⟩ A c] W (WKeep B b (o ++ leafB ⟨1, 0, t, []⟩) W) := by
  have HB := Aside0.mk ((Below.refl B W).alloc hB (ago ⟨1, 0, t, []⟩ A c))
  have HC := Lib.hid (writeS_k B b o (⟨#[43]⟩ ++ t ++ ⟨#[13, 10]⟩) (W.alloc (.cells #[.int .i64 1, .int .i64 0, .string t, .slice A 0 c] 24)).drew (wb_below h (below_drew (ago_below W ⟨1, 0, t, []⟩ A c)))
    (by rw [ByteArray.size_append, ByteArray.size_append]; show o.length + (1 + t.size + 2) ≤ _; omega) (by have := HB.out.size; show B ≤ (W.alloc _).heap.size; simp; omega))
  have HQ := Lib.hid (line_cat o t 43)
  have q1 : ¬ 9223372036854775807 < 1 + t.size := by omega
  have q2 : ¬ 9223372036854775807 < 1 + t.size + 2 := by omega
  clear hT h
  go_enter Tryd.func45, Tryd.ntmps45
  go_wp2_with fail
  go_region_law (go_simp; go_at_call 71; refine HC.out.mono ?_; rintro _ w1 ⟨rfl, ha1, hb1, hk1⟩; have HA1 := Aside0.mk ha1; have HB1 := Aside0.mk ((below_drew HB.out).trans hb1); have HK1 := Aside0.mk ((Bld.keep_below (below_drew (ago_below W ⟨1, 0, t, []⟩ A c))).trans hk1); clear ha1 hb1 hk1)
  all_goals
    go_wp2_with fail
    go_end0
    exact ⟨rfl, by rw [show leafB ⟨1, 0, t, []⟩ = 43 :: (t.data.toList ++ [13, 10]) from rfl, ← HQ.out]; exact HA1.out, HB1.out, HK1.out⟩
set_option maxRecDepth 100000 in
set_option maxHeartbeats 1000000 in
theorem w_line2 (t : ByteArray) (ht : t.size ≤ 4096) (hlen : o.length + t.size + 60 ≤ 140737488355328) :
    Calls Tryd.prog 45 #[.pointer (some ⟨b, 0, none⟩), agv ⟨2, 0, t, []⟩ A c] W (WKeep B b (o ++ leafB ⟨2, 0, t, []⟩) W) := by
  have HB := Aside0.mk ((Below.refl B W).alloc hB (ago ⟨2, 0, t, []⟩ A c))
  have HC := Lib.hid (writeS_k B b o (⟨#[45]⟩ ++ t ++ ⟨#[13, 10]⟩) (W.alloc (.cells #[.int .i64 2, .int .i64 0, .string t, .slice A 0 c] 24)).drew (wb_below h (below_drew (ago_below W ⟨2, 0, t, []⟩ A c)))
    (by rw [ByteArray.size_append, ByteArray.size_append]; show o.length + (1 + t.size + 2) ≤ _; omega) (by have := HB.out.size; show B ≤ (W.alloc _).heap.size; simp; omega))
  have HQ := Lib.hid (line_cat o t 45)
  have q1 : ¬ 9223372036854775807 < 1 + t.size := by omega
  have q2 : ¬ 9223372036854775807 < 1 + t.size + 2 := by omega
  clear hT h
  go_enter Tryd.func45, Tryd.ntmps45
  go_wp2_with fail
  go_region_law (go_simp; go_at_call 71; refine HC.out.mono ?_; rintro _ w1 ⟨rfl, ha1, hb1, hk1⟩; have HA1 := Aside0.mk ha1; have HB1 := Aside0.mk ((below_drew HB.out).trans hb1); have HK1 := Aside0.mk ((Bld.keep_below (below_drew (ago_below W ⟨2, 0, t, []⟩ A c))).trans hk1); clear ha1 hb1 hk1)
  all_goals
    go_wp2_with fail
    go_end0
    exact ⟨rfl, by rw [show leafB ⟨2, 0, t, []⟩ = 45 :: (t.data.toList ++ [13, 10]) from rfl, ← HQ.out]; exact HA1.out, HB1.out, HK1.out⟩
end
theorem rd_get (l : List S24) (i : Nat) (h : i < l.length) : rd_T24 l (i : Int) = l[i] := by
  unfold rd_T24
  rw [Int.toNat_natCast, List.getD_eq_getElem?_getD, List.getElem?_eq_getElem h]
  rfl
theorem flat_snoc (l : List S24) (f : S24 → List UInt8) (i : Nat) (h : i < l.length) : (l.take (i + 1)).flatMap f = (l.take i).flatMap f ++ f (rd_T24 l (i : Int)) := by
  rw [List.take_succ_eq_append_getElem h, List.flatMap_append, rd_get l i h]
  simp
theorem flat_le (l : List S24) (f : S24 → List UInt8) (i : Nat) (h : i < l.length) : ((l.take i).flatMap f).length + (f (rd_T24 l (i : Int))).length ≤ (l.flatMap f).length := by
  have h1 := flat_snoc l f i h
  have h2 : l.flatMap f = (l.take (i + 1)).flatMap f ++ (l.drop (i + 1)).flatMap f := by rw [← List.flatMap_append, List.take_append_drop]
  rw [h2, h1]
  simp only [List.length_append]
  omega
def WAns (B b d : Nat) (w0 : World) (y : S24) : Prop := ∀ (W : World) (o : List UInt8), Tab B W → Wb B b o W → B ≤ W.heap.size → Below w0.heap.size w0 W → o.length + (encD d y).length + 60 ≤ 140737488355328 →
  ∀ (A : Option Addr) (c : Nat), y.f3.length ≤ c → k24.C w0 A y.f3.length y.f3 → Calls Tryd.prog 45 #[.pointer (some ⟨b, 0, none⟩), agv y A c] W (WKeep B b (o ++ encD d y) W)
set_option maxHeartbeats 2000000 in
theorem w_list (B b d : Nat) (w0 : World) (l : List S24) (ih : ∀ y ∈ l, WAns B b d w0 y) (hl : l.length ≤ 2000) (hw : w0.heap.size ≤ B) : WAns B b (d + 1) w0 ⟨6, 0, ⟨#[]⟩, l⟩ := by
  intro W o hT h hB hW hlen A c hc hA
  rw [show encD (d + 1) ⟨6, 0, ⟨#[]⟩, l⟩ = (42 :: (Lib.itoa l.length ++ [13, 10])) ++ l.flatMap (encD d) from by rw [encD]; rfl] at hlen ⊢
  have HB := Aside0.mk ((Below.refl B W).alloc hB (ago ⟨6, 0, ⟨#[]⟩, l⟩ A c))
  have HW := Aside0.mk (wb_below h (ago_below W ⟨6, 0, ⟨#[]⟩, l⟩ A c))
  have H0 := Aside0.mk hW
  have HA := Aside0.mk (show k24.C w0 A l.length l from hA)
  have HT := Lib.hid hT
  have HI := Lib.hid ih
  have hlen' : o.length + (1 + ((Lib.itoa l.length).length + 2)) + (l.flatMap (encD d)).length + 60 ≤ 140737488355328 := by simp only [List.length_append, List.length_cons, List.length_nil] at hlen; omega
  clear hT h hW hA ih hlen
  have hn := Nat.le_trans hl (show 2000 ≤ 9223372036854775807 by decide)
  go_enter Tryd.func45, Tryd.ntmps45
  go_wp2_with fail
  go_at_call 40
  refine (num42' B b o l.length _ (by exact HT.out.step HB.out) (by exact HW.out) (by omega) (by omega) (by omega) (by simp; omega)).mono ?_
  rintro _ w1 ⟨rfl, ha1, hb1, hk1⟩
  have HA1 := Aside0.mk ha1
  have HB1 := Aside0.mk (HB.out.trans hb1)
  have HR := Aside0.mk (show RAt w1 W.heap.size (.int .i64 6) (.int .i64 0) (.string ⟨#[]⟩) (.slice A l.length c) from hk1 _ _ (ago_at W ⟨6, 0, ⟨#[]⟩, l⟩ A c))
  have HK1 := Aside0.mk ((Bld.keep_below (ago_below W ⟨6, 0, ⟨#[]⟩, l⟩ A c)).trans hk1)
  obtain ⟨⟨m0, m1, m2, m3⟩, _⟩ := HR.out.cells
  clear ha1 hb1 hk1
  go_wp2_with fail
  clear m0 m1 m2 m3
  go_loopw [56] (fun v56 W' => ∃ i : Nat, v56 = .int .i64 i ∧ i ≤ l.length ∧ Aside0 (Below B W W') ∧ Aside0 (Bld.Keep24 W W') ∧ Aside0 (Wb B b (o ++ (42 :: (Lib.itoa l.length ++ [13, 10])) ++ (l.take i).flatMap (encD d)) W')) (fun v56 _ => l.length - (intOf v56).toNat)
  case atStart => exact ⟨0, rfl, by omega, HB1, HK1, ⟨by simpa using HA1.out⟩⟩
  case round =>
    clear HB HW HA1 HB1 HK1
    obtain ⟨i, rfl, hi, HB, HK, HW⟩ := hrel
    by_cases hlt : i < l.length
    · have hlt' : (i : Int) < (l.length : Int) := by omega
      obtain ⟨a, C, e, rfl, a0, a1, a2, a3, ae, aC⟩ := elem_K HA.out i hlt
      have hmem := Lib.hid (rd_mem hlt)
      have hsn := Lib.hid (flat_snoc l (encD d) i hlt)
      have hfl := flat_le l (encD d) i hlt
      generalize hy : rd_T24 l i = y at a0 a1 a2 a3 ae aC hmem hsn hfl
      have HW0 := Aside0.mk (H0.out.trans (HB.out.mono hw))
      have b0 := cell_move a0 HW0.out
      have b1 := cell_move a1 HW0.out
      have b2 := cell_move a2 HW0.out
      have b3 := cell_move a3 HW0.out
      have AC := Aside0.mk aC
      have hBr : B ≤ wr.heap.size := Nat.le_trans hB HB.out.size
      clear aC hy a0 a1 a2 a3
      go_wp2_with fail
      go_at_call 45
      refine (HI.out y hmem.out _ (o ++ (42 :: (Lib.itoa l.length ++ [13, 10])) ++ (l.take i).flatMap (encD d)) (HT.out.step (HB.out.alloc hBr _)) (wb_below HW.out (below_alloc (Below.refl _ _) _)) (by simp; omega) (HW0.out.alloc (Nat.le_trans hw hBr) _)
        (by simp only [List.length_append, List.length_cons, List.length_nil]; omega) C e ae AC.out).mono ?_
      rintro _ w2 ⟨rfl, ha2, hb2, hk2⟩
      have HA2 := Aside0.mk ha2
      have HB2 := Aside0.mk ((HB.out.alloc hBr (ago y C e)).trans hb2)
      have HK2 := Aside0.mk ((HK.out.trans (Bld.keep_below (ago_below wr y C e))).trans hk2)
      clear ha2 hb2 hk2
      go_wp2_with fail
      go_roundw
      case rel => exact ⟨i + 1, by go_num, by omega, HB2, HK2, ⟨by rw [hsn.out, ← List.append_assoc]; exact HA2.out⟩⟩
      case measure => simp [intOf]; omega
    · obtain rfl : i = l.length := by omega
      have hlt' : ¬ (l.length : Int) < (l.length : Int) := by omega
      go_wp2_with fail
      go_end0
      exact ⟨rfl, by have := HW.out; rw [List.take_length] at this; simpa using this, HB.out, HK.out⟩
theorem w_leaf (B b d : Nat) (w0 : World) (x : S24) (h : leafOk x) : ∀ (W : World) (o : List UInt8), Tab B W → Wb B b o W → B ≤ W.heap.size → o.length + (leafB x).length + 60 ≤ 140737488355328 →
    ∀ (A : Option Addr) (c : Nat), Calls Tryd.prog 45 #[.pointer (some ⟨b, 0, none⟩), agv x A c] W (WKeep B b (o ++ leafB x) W) := by
  intro W o hT hW hB hlen A c
  obtain ⟨k, n, t, l⟩ := x
  rcases h with ⟨h | h, h1, h2, h3⟩ | ⟨h, h1, h2, h3, h4⟩ | ⟨h, h1, h2, h3⟩ | ⟨h, h1, h2, h3⟩
  · simp only at h h1 h2 h3; subst h h1 h3
    have hs : t.data.toList.length = t.size := by simp
    rw [show leafB ⟨1, 0, t, []⟩ = 43 :: (t.data.toList ++ [13, 10]) from rfl] at hlen
    simp only [List.length_cons, List.length_append, List.length_nil] at hlen
    exact w_line1 B b o W hT hW hB A c t h2.1 (by omega)
  · simp only at h h1 h2 h3; subst h h1 h3
    have hs : t.data.toList.length = t.size := by simp
    rw [show leafB ⟨2, 0, t, []⟩ = 45 :: (t.data.toList ++ [13, 10]) from rfl] at hlen
    simp only [List.length_cons, List.length_append, List.length_nil] at hlen
    exact w_line2 B b o W hT hW hB A c t h2.1 (by omega)
  · simp only at h h1 h2 h3 h4; subst h h1 h2
    exact w_num B b o W hT hW hB A c n h3 h4 (by omega)
  · simp only at h h1 h2 h3; subst h h1 h3
    rw [show leafB ⟨4, 0, t, []⟩ = bulkB t from rfl] at hlen
    have : t.size ≤ (bulkB t).length := by unfold bulkB; simp; omega
    exact w_bulk B b o W hT hW hB A c t (by omega)
  · simp only at h h1 h2 h3; subst h h1 h2 h3
    exact w_none B b o W hT hW hB A c (by omega)
theorem w_any (B b : Nat) (w0 : World) (hw : w0.heap.size ≤ B) : ∀ (d : Nat) (x : S24), okD d x → WAns B b d w0 x
  | 0, x, hx => fun W o hT hW hB _ hlen A c _ _ => w_leaf B b 0 w0 x hx W o hT hW hB hlen A c
  | d + 1, x, hx => by
    rcases hx with hx | ⟨h0, h1, h2, h3, h4⟩
    · intro W o hT hW hB _ hlen A c _ _
      have e : encD (d + 1) x = leafB x := by rw [encD, if_neg (leaf_not6 hx)]
      rw [e] at hlen ⊢
      exact w_leaf B b 0 w0 x hx W o hT hW hB hlen A c
    · obtain ⟨k, n, t, l⟩ := x
      simp only at h0 h1 h2 h3 h4
      subst h0 h1 h2
      exact w_list B b d w0 l (fun y hy => w_any B b w0 hw d y (h4 y hy)) h3 hw
end Go.Proofs.YtbdfjiobegadjaaDoor.Wr
