/- The walks of the law's own 'drained' and 'fed': the commands that the reader takes out of pieces. -/
import Derived.Test.YtbdfjiobegadjaaDoorStrM

namespace Go.Proofs.YtbdfjiobegadjaaDoor.Sm
open Go Go.RowKit Go.Proofs.YtbdfjiobegadjaaDoor.Wr Go.Proofs.YtbdfjiobegadjaaDoor.Rf Go.Proofs.YtbdfjiobegadjaaDoor.Tk Go.Proofs.YtbdfjiobegadjaaDoor.Rd Go.Proofs.YtbdfjiobegadjaaDoor.PWireMemory Go.Proofs.YtbdfjiobegadjaaDoorW.PrintWords Go.Proofs.YtbdfjiobegadjaaDoorW.PrintLast Go.Proofs.YtbdfjiobegadjaaDoorW.PrintMore
set_option linter.unusedVariables false
set_option linter.unusedSectionVars false
set_option linter.unusedSimpArgs false
abbrev kS : Kd (List ByteArray) := Kd.slice 9 Kd.string
/-- Lists that were answered: none of their blocks is the reader's, or one of its rows. -/
def Got (W : World) (base b : Nat) (d : Nat → Prop) (v : Value) (ls : List (List ByteArray)) : Prop := kS.R 45 W base (fun k => k ≠ b ∧ ¬ d k) v ls
def lenV : Value → Nat
  | .slice _ n _ => n
  | _ => 0
theorem info45 : (Tryd.prog.info? 45).map (fun i => (i.zero, i.size, i.bytes)) = some (some (.slice none 0 0), 1, 24) := by kernel_rfl
theorem cx_new {base b : Nat} {d : Nat → Prop} {ad : Nat → Addr} {W W' : World} (h : Cx base base b d ad W) (hb : Below base W W') : Cx base base b (fun k => W'.heap.size ≤ k) ad W' :=
  ⟨h.en.below hb, h.low, Nat.le_trans h.base hb.size, fun _ hk => hk, fun k hk => Nat.le_trans (Nat.le_trans h.base hb.size) hk⟩
theorem got_only {W W' : World} {base b : Nat} {d : Nat → Prop} {v : Value} {ls : List (List ByteArray)} (h : Got W base b d v ls) (ho : OnlyD b d W W') : Got W' base b d v ls :=
  Kd.R_step h (fun k hk hl => ho.keep k hl hk.1 hk.2)
structure DrainOk (base b : Nat) (ad : Nat → Addr) (all : List (List ByteArray)) (st : St) (W : World) (e : Ending) (W' : World) : Prop where
  end_ : ∃ v d, e = .returned (.tuple #[v, .nilIface]) ∧ Cx base base b d ad W' ∧ Rep W' base d b ⟨#[]⟩ st ∧ Got W' base b d v all ∧ st.ok
  below : Below base W W'
theorem row_own {W : World} {base b : Nat} {d : Nat → Prop} {v v' : Value} {ls : List (List ByteArray)} {l : List ByteArray} {t : TypeId} {cells : Array Value} (hg : Got W base b d v ls) (hl : ListR W base d v' l) (hb : W.heap[b]? = some (.cells cells t (0, 0))) (ht : 9 ≠ t) :
    kS.M W base (fun k => d k ∧ k ≠ b) l [v'] ∧ ∀ k, (d k ∧ k ≠ b) → k ≠ b ∧ some k ≠ v.ownBlock :=
  ⟨⟨v', rfl, Kd.R_types hl hb (by intro q hq; simp [Kd.string, Kd.scalar] at hq; subst hq; exact ht)⟩, fun k hk => ⟨hk.2, fun e => (hg.1 k e.symm).2 hk.1⟩⟩
set_option maxHeartbeats 2000000 in
set_option maxRecDepth 100000 in
theorem drained_any (base b : Nat) (d : Nat → Prop) (ad : Nat → Addr) (W : World) (hx : Cx base base b d ad W) (s : ByteArray) (hs : s.size ≤ 281474976710656) (st st' : St) (hok : st.ok) (h : Rep W base d b s st) (v : Value) (ls new : List (List ByteArray))
    (hg : Got W base b d v ls) (ho : outsB st s = some (new, st')) (most : Nat) (hm : (ls ++ new).length ≤ most) (hmm : most ≤ 5000000000000) :
    Calls Tryd.prog 48 #[.pointer (some ⟨b, 0, none⟩), v, .int .i64 most] W (DrainOk base b ad (ls ++ new) st' W) := by
  have HX := Aside0.mk hx
  have HR := Aside0.mk h
  have HG := Aside0.mk hg
  have HO := Lib.hid ho
  clear hx h hg ho
  go_enter Tryd.func48, Tryd.ntmps48
  go_wp2_with fail
  go_loopw [1] (fun v1 W' => ∃ (ls1 rem : List (List ByteArray)) (t : St) (sw : ByteArray) (d1 : Nat → Prop), Hid (ls1 ++ rem = ls ++ new) ∧ sw.size ≤ 281474976710656 ∧ Hid t.ok ∧ Aside0 (Cx base base b d1 ad W') ∧ Aside0 (Rep W' base d1 b sw t) ∧ Aside0 (Got W' base b d1 v1 ls1) ∧ Hid (outsB t sw = some (rem, st')) ∧ Aside0 (Below base W W')) (fun v1 _ => most + 1 - lenV v1)
  case atStart => exact ⟨ls, new, st, s, d, Lib.hid rfl, hs, Lib.hid hok, HX, HR, HG, HO, ⟨Below.refl _ _⟩⟩
  case round =>
    obtain ⟨ls1, rem, t, sw, d1, hcat, hsw, ht, HX1, HR1, HG1, HO1, HB1⟩ := hrel
    obtain ⟨A1, c1, rfl⟩ := Kd.R_slice HG1.out
    have hle : ls1.length + rem.length ≤ most := by
      have := congrArg List.length hcat.out
      rw [List.length_append] at this
      omega
    have hle' : (ls1.length : Int) ≤ (most : Int) := by omega
    have hbw := HX1.out.base
    have hlow := HX1.out.low
    cases hr : runF sw sw.size 0 t with
    | bad k => exact (outs_bad HO1.out hr).elim
    | more t' =>
      obtain ⟨h1, h2⟩ := outs_more HO1.out hr
      have hcat := Lib.hid (show ls1 = ls ++ new by rw [← hcat.out, h1, List.append_nil])
      have hok' := Lib.hid (runF_ok ht.out hr)
      have hrr := Lib.hid hr
      subst h2
      clear hr h1
      go_wp2_with fail
      go_at_call 19
      refine (next_any base base b d1 ad _ HX1.out sw hsw t ht.out HR1.out).mono ?_
      rintro e w2 ⟨q1, q2⟩
      rw [hrr.out] at q1
      obtain ⟨rfl, q3⟩ := q1
      have H3 := Aside0.mk q3
      have H2 := Aside0.mk q2
      clear q2 q3
      go_wp2_with fail
      go_ret2
      exact ⟨⟨_, d1, rfl, HX1.out.only H2.out, H3.out, by rw [← hcat.out]; exact got_only HG1.out H2.out, hok'.out⟩, HB1.out.trans (H2.out.below hbw hlow HX1.out.old)⟩
    | whole l j =>
      obtain ⟨rem', h1, h2⟩ := outs_whole HO1.out hr
      have hcat' := Lib.hid (show (ls1 ++ [l]) ++ rem' = ls ++ new by rw [← hcat.out, h1, List.append_assoc]; rfl)
      have hl1 : ls1.length + 1 ≤ most := by rw [h1] at hle; simp at hle; omega
      have hO' := Lib.hid h2
      have hex : (sw.extract j sw.size).size ≤ 281474976710656 := by rw [ByteArray.size_extract]; omega
      have hrr := Lib.hid hr
      clear hr h1 h2
      go_wp2_with fail
      go_at_call 19
      refine (next_any base base b d1 ad _ HX1.out sw hsw t ht.out HR1.out).mono ?_
      rintro e w2 ⟨q1, q2⟩
      rw [hrr.out] at q1
      obtain ⟨v2, rfl, q3, q4⟩ := q1
      obtain ⟨A2, c2, rfl⟩ := Kd.R_slice q4
      obtain ⟨u3, u4, u5, u6, u7, u8, u9, q5, -⟩ := q3
      have hg2 := got_only HG1.out q2
      obtain ⟨hM, hokp⟩ := row_own hg2 q4 q5 (by decide)
      have hbl := blk_lt q5
      have H5 := Aside0.mk q5
      have HG2 := Aside0.mk hg2
      have HM := Aside0.mk hM
      have HK := Lib.hid hokp
      have HB2 := Aside0.mk (HB1.out.trans (q2.below hbw hlow HX1.out.old))
      have hb2 := q2.size
      have HX2 := Aside0.mk (HX1.out.only q2)
      clear q2 q4 q5 hg2 hM hokp
      go_wp2_with ((with_reducible refine gate_builtin (b := .append) (xs := #[.tmp 28, .tmp 30]) rfl ?_); at_builtin; refine Kd.R_append kS (w0 := W) base rfl (.tmp 28) (.tmp 30) 70 45 (.slice none 0 0) 24 rfl Tryd.underlying70 info45 rfl (by decide) (by omega) (.slice A1 ls1.length c1) ls1 l [.slice A2 l.length c2] (fun k => k ≠ b) (fun k => d1 k ∧ k ≠ b) rfl rfl HM.out HK.out (fun k hk => by omega) (Kd.R_mono HG2.out (fun k hk => hk.1)) HB2.out (by omega) (by omega) ?_; intro v5 w5 ho5 hb5 hg5 hat5; have HO5 := Aside0.mk ho5; have HB5 := Aside0.mk hb5; have HG5 := Aside0.mk hg5; clear ho5 hb5 hg5 hat5)
      obtain ⟨A5, c5, e5⟩ := Kd.R_slice HO5.out
      rw [List.length_append] at e5
      subst e5
      have hbk := Aside0.mk (show w5.heap[b]? = _ from (HG5.out.block b hbl (fun e => (HG2.out.1 b e.symm).1 rfl)).trans H5.out)
      go_roundw
      case rel => exact ⟨ls1 ++ [l], rem', .start, _, fun k => w5.heap.size ≤ k, hcat', hex, Lib.hid trivial, ⟨cx_new HX2.out (by exact ⟨HG5.out.os, HG5.out.tape, HG5.out.output, HG5.out.size, fun k hk => HG5.out.block k (by omega) (fun e => by have := own_base (Kd.R_own HG2.out).choose_spec k e.symm; omega)⟩)⟩, ⟨_, _, _, _, _, _, _, hbk.out, trivial⟩, ⟨Kd.R_mono (Kd.R_bound HO5.out) (fun k hk => ⟨hk.1, by have := hk.2.2.1; omega⟩)⟩, hO', HB5⟩
      case measure => simp [lenV]; omega
set_option maxHeartbeats 2000000 in
set_option maxRecDepth 100000 in
theorem fed_any (ad : Nat → Addr) (W : World) (hE : Errs W ad) (S : ByteArray) (hS : S.size ≤ 140737488000000) (cuts : List Int) (A : Option Addr) (c : Nat) (hC : (Kd.int .i64).C W A cuts.length cuts) (all : List (List ByteArray)) (ho : outsB .start S = some (all, .start)) (most : Nat) (hm : all.length ≤ most) (hmm : most ≤ 5000000000000) :
    Calls Tryd.prog 27 #[.string S, .slice A cuts.length c, .int .i64 most] W fun e w' => ∃ v, e = .returned (.tuple #[v, .nilIface]) ∧ kS.R 45 w' W.heap.size (fun _ => True) v all ∧ Below W.heap.size W w' := by
  have HE := Aside0.mk hE
  have HC := Aside0.mk hC
  have HO := Lib.hid ho
  have hcm := Kd.C_max hC
  clear hE hC ho
  go_enter Tryd.func27, Tryd.ntmps27
  go_wp2_with fail
  go_at_call 14
  refine (new_any _).mono ?_
  rintro _ w1 ⟨rfl, hw1⟩
  have hb1 : Below W.heap.size W w1 := by rw [hw1]; exact below_alloc (Below.refl _ _) _
  have hrd : RD w1 W.heap.size (.string ⟨#[]⟩) .nilIface (mv (fnOf .start) W.heap.size) .nilFunc (.int .i64 0) (.int .i64 0) (.int .i64 0) (.int .i64 0) (.slice none 0 0) (.slice none 0 0) := by rw [hw1]; exact (MapKept.heap_alloc W _).1
  have HB1 := Aside0.mk hb1
  have HX1 := Aside0.mk (show Cx W.heap.size W.heap.size W.heap.size (fun k => w1.heap.size ≤ k) ad w1 from ⟨(en_here HE.out).below hb1, Nat.le_refl _, hb1.size, fun _ hk => hk, fun k hk => Nat.le_trans hb1.size hk⟩)
  have HR1 := Aside0.mk (show Rep w1 W.heap.size (fun k => w1.heap.size ≤ k) W.heap.size ⟨#[]⟩ .start from ⟨_, _, _, _, _, _, _, hrd, trivial⟩)
  have HN := Aside0.mk (show Got w1 W.heap.size W.heap.size (fun k => w1.heap.size ≤ k) (.slice none 0 0) [] from Kd.R_nil _ _ _ _ _)
  clear hb1 hrd hw1
  go_wp2_with fail
  go_loopw [0, 9, 10, 11] (fun v0 v9 v10 v11 W' => ∃ (i : Nat) (s : ByteArray) (ls rem : List (List ByteArray)) (t : St) (d : Nat → Prop), v0 = .string s ∧ v10 = .nilIface ∧ v11 = .int .i64 i ∧ i ≤ cuts.length ∧ s.size ≤ S.size ∧ Hid (ls ++ rem = all) ∧ Hid t.ok ∧ Aside0 (Cx W.heap.size W.heap.size W.heap.size d ad W') ∧ Aside0 (Rep W' W.heap.size d W.heap.size ⟨#[]⟩ t) ∧ Aside0 (Got W' W.heap.size W.heap.size d v9 ls) ∧ Hid (outsB t s = some (rem, .start)) ∧ Aside0 (Below W.heap.size W W')) (fun _ _ _ v11 _ => cuts.length - (intOf v11).toNat)
  case atStart => exact ⟨0, S, [], all, .start, _, rfl, rfl, rfl, by omega, by omega, Lib.hid rfl, Lib.hid trivial, HX1, HR1, HN, HO, HB1⟩
  case round =>
    obtain ⟨i, s, ls, rem, t, d, rfl, rfl, rfl, hi, hss, hcat, ht, HXr, HRr, HGr, HOr, HBr⟩ := hrel
    have hbw := HXr.out.base
    obtain ⟨A9, c9, rfl⟩ := Kd.R_slice HGr.out
    by_cases hlt : i < cuts.length
    · have hlt' : (i : Int) < (cuts.length : Int) := by omega
      obtain ⟨a, rfl, ha⟩ := Kd.at_int (Kd.C_below HC.out HBr.out) (i : Int) (by omega) hlt'
      rw [Int.toNat_natCast] at ha
      generalize rd cuts (i : Int) = cut at ha
      have hpr := Rf.pickF_range cut ((s.size : Int) + 1) (by omega)
      have hw1 : IntKind.i64.wrap ((s.size : Int) + 1) = (s.size : Int) + 1 := IntWalk.i64_in _ (by omega)
      go_wp2_with fail
      go_at_call 16
      refine (Rf.pick_walk cut ((s.size : Int) + 1) (by omega) (by omega) _).mono ?_
      rintro _ w4 ⟨rfl, rfl⟩
      generalize hk : Rf.pickF cut ((s.size : Int) + 1) = k at hpr
      obtain ⟨k, rfl⟩ := Int.eq_ofNat_of_zero_le hpr.1
      clear hk ha
      have hk1 : (k : Int) ≤ (s.size : Int) := by omega
      obtain ⟨x, y, t1, hxy, hx, hy⟩ := outs_cut HOr.out k
      have hx := Lib.hid hx
      have hy := Lib.hid hy
      have hxy := Lib.hid hxy
      have hz0 : (s.extract 0 k).size ≤ s.size := by rw [ByteArray.size_extract]; omega
      have hz1 : (s.extract k s.size).size ≤ s.size := by rw [ByteArray.size_extract]; omega
      go_wp2_with fail
      go_at_call 17
      refine (feed_good _ W.heap.size W.heap.size d ⟨#[]⟩ (s.extract 0 k) t (by show 0 + _ ≤ _; omega) HRr.out).mono ?_
      rintro _ w5 ⟨rfl, u1, u2⟩
      have ho5 : OnlyD W.heap.size d _ w5 := u2 ▸ (OnlyD.refl _ _ _).set 0 _
      have U1 := Aside0.mk (show Rep w5 W.heap.size d W.heap.size (s.extract 0 k) t by have := u1; rwa [show (⟨#[]⟩ : ByteArray) ++ s.extract 0 k = s.extract 0 k from ByteArray.empty_append] at this)
      have HX5 := Aside0.mk (HXr.out.only ho5)
      have HG5 := Aside0.mk (got_only HGr.out ho5)
      have HB5 := Aside0.mk (HBr.out.trans (ho5.below hbw (Nat.le_refl _) HXr.out.old))
      clear u1 u2 ho5
      go_wp2_with fail
      go_at_call 48
      refine (drained_any W.heap.size W.heap.size d ad w5 HX5.out (s.extract 0 k) (by omega) t t1 ht.out U1.out _ ls x HG5.out hx.out most (by have := congrArg List.length hcat.out; rw [hxy.out] at this; simp at this ⊢; omega) hmm).mono ?_
      rintro _ w6 ⟨⟨v6, d6, rfl, k1, k2, k3, k4⟩, k5⟩
      have K1 := Aside0.mk k1
      have K2 := Aside0.mk k2
      have K3 := Aside0.mk k3
      have K4 := Lib.hid k4
      have K5 := Aside0.mk (HB5.out.trans k5)
      clear k1 k2 k3 k4 k5
      go_wp2_with fail
      go_roundw
      case rel => exact ⟨i + 1, _, ls ++ x, y, t1, d6, rfl, rfl, by go_num, by omega, by omega, Lib.hid (by rw [List.append_assoc, ← hxy.out]; exact hcat.out), K4, K1, K2, K3, hy, K5⟩
      case measure => simp [intOf]; omega
    · have hlt' : ¬ (i : Int) < (cuts.length : Int) := by omega
      go_wp2_with fail
      go_at_call 17
      refine (feed_good _ W.heap.size W.heap.size d ⟨#[]⟩ s t (by show 0 + _ ≤ _; omega) HRr.out).mono ?_
      rintro _ w5 ⟨rfl, u1, u2⟩
      have ho5 : OnlyD W.heap.size d _ w5 := u2 ▸ (OnlyD.refl _ _ _).set 0 _
      have U1 := Aside0.mk (show Rep w5 W.heap.size d W.heap.size s t by have := u1; rwa [show (⟨#[]⟩ : ByteArray) ++ s = s from ByteArray.empty_append] at this)
      have HX5 := Aside0.mk (HXr.out.only ho5)
      have HG5 := Aside0.mk (got_only HGr.out ho5)
      have HB5 := Aside0.mk (HBr.out.trans (ho5.below hbw (Nat.le_refl _) HXr.out.old))
      clear u1 u2 ho5
      go_wp2_with fail
      go_at_call 48
      refine (drained_any W.heap.size W.heap.size d ad w5 HX5.out s (by omega) t .start ht.out U1.out _ ls rem HG5.out HOr.out most (by rw [hcat.out]; omega) hmm).mono ?_
      rintro _ w6 ⟨⟨v6, d6, rfl, k1, k2, k3, k4⟩, k5⟩
      have K3 := Aside0.mk k3
      have K5 := Aside0.mk (HB5.out.trans k5)
      clear k1 k2 k3 k4 k5
      go_wp2_with fail
      go_ret2
      exact ⟨_, rfl, by rw [← hcat.out]; exact Kd.R_mono K3.out (fun _ _ => trivial), K5.out⟩
end Go.Proofs.YtbdfjiobegadjaaDoor.Sm
