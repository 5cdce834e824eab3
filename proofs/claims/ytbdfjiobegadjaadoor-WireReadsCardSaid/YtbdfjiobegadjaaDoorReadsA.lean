/- Both readers: made, fed; a pair of them that is in step, in memory. -/
import Derived.Test.YtbdfjiobegadjaaDoorRunLaw
import Derived.Test.YtbdfjiobegadjaaDoorOpens
import Derived.Test.YtbdfjiobegadjaaDoorNum
import Derived.LaidEqlPtr
namespace Go.Proofs.YtbdfjiobegadjaaDoor.Rf
open Go Go.RowKit Go.Proofs.YtbdfjiobegadjaaDoor.Tk Go.Proofs.YtbdfjiobegadjaaDoor.Pl Go.Proofs.YtbdfjiobegadjaaDoor.Rd Go.Proofs.YtbdfjiobegadjaaDoor.PWireMemory Go.Proofs.YtbdfjiobegadjaaDoorW.PrintWords Go.Proofs.YtbdfjiobegadjaaDoorW.PrintLast Go.Proofs.YtbdfjiobegadjaaDoorW.PrintMore
set_option linter.unusedVariables false
set_option linter.unusedSectionVars false
set_option linter.unusedSimpArgs false
theorem feed_good (W : World) (base b : Nat) (dom : Nat → Prop) (s d : ByteArray) (st : St) (hl : s.size + d.size ≤ 140737488351232) (h : Rep W base dom b s st) :
    Calls Tryd.prog 17 #[.pointer (some ⟨b, 0, none⟩), .string d] W fun e w' => e = .returned (.tuple #[]) ∧ Rep w' base dom b (s ++ d) st ∧ w' = W.setCell ⟨b, 0, none⟩ (.string (s ++ d)) := by
  obtain ⟨v3, v4, v5, v6, v7, v8, v9, hr, hi⟩ := h
  obtain ⟨⟨r0, r1, r2, r3, r4, r5, r6, r7, r8, r9⟩, rf⟩ := hr.cells
  have HR := Aside0.mk hr
  have HI := Aside0.mk hi
  have f0 := rf 0
  have hlt := blk_lt hr
  have k1 : ¬ (9223372036854775807 : Int) < ((s.size : Int) + (d.size : Int)) := by omega
  clear hr hi r2 r3 r4 r5 r6 r7 r8 r9 rf
  go_enter Tryd.func17, Tryd.ntmps17
  go_wp2
  go_end0
  exact ⟨rfl, ⟨v3, v4, v5, v6, v7, v8, v9, blk_set HR.out 0 _, stin_set HI.out HR.out 0 _⟩, rfl⟩
theorem feed_err (W : World) (b : Nat) (ad : Nat → Addr) (k : Nat) (d : ByteArray) (h : RepE W b ad k) :
    Calls Tryd.prog 17 #[.pointer (some ⟨b, 0, none⟩), .string d] W fun e w' => e = .returned (.tuple #[]) ∧ w' = W := by
  obtain ⟨v0, v2, v3, v4, v5, v6, v7, v8, v9, hr⟩ := h
  obtain ⟨⟨r0, r1, r2, r3, r4, r5, r6, r7, r8, r9⟩, rf⟩ := hr.cells
  clear hr r0 r2 r3 r4 r5 r6 r7 r8 r9 rf
  go_enter Tryd.func17, Tryd.ntmps17
  go_wp2
  go_end0
  exact ⟨rfl, rfl⟩
theorem rfeed_good (W : World) (b : Nat) (s d : ByteArray) (hl : s.size + d.size ≤ 140737488351232) (h : NAt W b s 0) :
    Calls Tryd.prog 18 #[.pointer (some ⟨b, 0, none⟩), .string d] W fun e w' => e = .returned (.tuple #[]) ∧ w' = W.setCell ⟨b, 0, none⟩ (.string (s ++ d)) := by
  obtain ⟨h0, h1, f0, f1⟩ := h.cells
  have hlt := blk_lt h
  have k1 : ¬ (9223372036854775807 : Int) < ((s.size : Int) + (d.size : Int)) := by omega
  clear h
  go_enter Tryd.func18, Tryd.ntmps18
  go_wp2
  go_end0
  exact ⟨rfl, rfl⟩
theorem rfeed_err (W : World) (b : Nat) (s d : ByteArray) (k : Nat) (h : NAt W b s ((k : Int) + 1)) :
    Calls Tryd.prog 18 #[.pointer (some ⟨b, 0, none⟩), .string d] W fun e w' => e = .returned (.tuple #[]) ∧ w' = W := by
  obtain ⟨h0, h1, f0, f1⟩ := h.cells
  have k1 : (((k : Int) + 1) == 0) = false := by rw [beq_eq_false_iff_ne]; omega
  clear h
  go_enter Tryd.func18, Tryd.ntmps18
  go_wp2
  go_end0
  exact ⟨rfl, rfl⟩
abbrev zero92 : Obj := .cells #[.string ⟨#[]⟩, .nilIface, .nilFunc, .nilFunc, .int .i64 0, .int .i64 0, .int .i64 0, .int .i64 0, .slice none 0 0, .slice none 0 0] 92
theorem new_any (W : World) : Calls Tryd.prog 14 #[] W fun e w' => e = .returned (.pointer (some ⟨W.heap.size, 0, none⟩)) ∧ w' = (W.alloc (.cells #[.string ⟨#[]⟩, .nilIface, mv 37 W.heap.size, .nilFunc, .int .i64 0, .int .i64 0, .int .i64 0, .int .i64 0, .slice none 0 0, .slice none 0 0] 92)) := by
  have hmf := mf
  go_enter Tryd.func14, Tryd.ntmps14
  go_wp2
  go_ret
  exact ⟨rfl, by first | rfl | (simp; done)⟩
theorem rnew_any (W : World) : Calls Tryd.prog 15 #[] W fun e w' => e = .returned (.pointer (some ⟨W.heap.size, 0, none⟩)) ∧ w' = (W.alloc (.cells #[.string ⟨#[]⟩, .int .i64 0] 94)) := by
  go_enter Tryd.func15, Tryd.ntmps15
  go_wp2
  go_ret
  exact ⟨rfl, rfl⟩
/-- What a pair of readers stands at. -/
inductive PS where
  | live (st : St) (wp wr : ByteArray)
  | dead (k : Nat)
/-- In memory: the program's reader in block bp with its rows in d, the document's in block br; at most T bytes have been fed. -/
def PairAt (W : World) (base : Nat) (ad : Nat → Addr) (bp br : Nat) (d : Nat → Prop) (T : Nat) : PS → Prop
  | .live st wp wr => Rep W base d bp wp st ∧ st.ok ∧ NAt W br wr 0 ∧ Sync st wp wr ∧ wr.size ≤ T
  | .dead k => RepE W bp ad k ∧ NAt W br ⟨#[]⟩ ((k : Int) + 1) ∧ k < 3
theorem rep_keep {W W' : World} {base b : Nat} {d : Nat → Prop} {s : ByteArray} {st : St} (h : Rep W base d b s st) (hb : W'.heap[b]? = W.heap[b]?) (hd : ∀ k, d k → k < W.heap.size → W'.heap[k]? = W.heap[k]?) : Rep W' base d b s st := by
  obtain ⟨v3, v4, v5, v6, v7, v8, v9, hr, hi⟩ := h
  refine ⟨v3, v4, v5, v6, v7, v8, v9, hb.trans hr, ?_⟩
  have hl : ∀ {list : List ByteArray}, ListR W base d v9 list → ListR W' base d v9 list := fun h => Kd.R_step h hd
  have ht : ∀ {text : List Int}, TextR W base d v8 text → TextR W' base d v8 text := fun h => Kd.R_step h hd
  have hth : ∀ {t : Th}, ThIn W base d b v3 v6 v9 t → ThIn W' base d b v3 v6 v9 t := fun {t} h => by
    cases t with
    | counted => exact h
    | sized left list => exact ⟨h.1, h.2.1, hl h.2.2⟩
  cases st with
  | start => trivial
  | num t n many => exact ⟨hi.1, hi.2.1, hth hi.2.2⟩
  | numd t n => exact ⟨hi.1, hth hi.2⟩
  | dollar left list => exact ⟨hi.1, hl hi.2⟩
  | body left need list text => exact ⟨hi.1, hi.2.1, hl hi.2.2.1, ht hi.2.2.2⟩
  | bodyEnd left list text => exact ⟨hi.1, hl hi.2.1, ht hi.2.2⟩
  | worded left list text => exact ⟨hi.1, hl hi.2.1, ht hi.2.2⟩
  | line text => exact ht hi
  | lineEnd text => exact ht hi
theorem rep_mono {W : World} {base b : Nat} {d d' : Nat → Prop} {s : ByteArray} {st : St} (h : Rep W base d b s st) (hd : ∀ k, d k → k < W.heap.size → d' k) : Rep W base d' b s st := by
  obtain ⟨v3, v4, v5, v6, v7, v8, v9, hr, hi⟩ := h
  refine ⟨v3, v4, v5, v6, v7, v8, v9, hr, ?_⟩
  have hl : ∀ {list : List ByteArray}, ListR W base d v9 list → ListR W base d' v9 list := fun h => Kd.R_mono (Kd.R_bound h) (fun k hk => hd k hk.1 hk.2.2.1)
  have ht : ∀ {text : List Int}, TextR W base d v8 text → TextR W base d' v8 text := fun h => Kd.R_mono (Kd.R_bound h) (fun k hk => hd k hk.1 hk.2.2.1)
  have hth : ∀ {t : Th}, ThIn W base d b v3 v6 v9 t → ThIn W base d' b v3 v6 v9 t := fun {t} h => by
    cases t with
    | counted => exact h
    | sized left list => exact ⟨h.1, h.2.1, hl h.2.2⟩
  cases st with
  | start => trivial
  | num t n many => exact ⟨hi.1, hi.2.1, hth hi.2.2⟩
  | numd t n => exact ⟨hi.1, hth hi.2⟩
  | dollar left list => exact ⟨hi.1, hl hi.2⟩
  | body left need list text => exact ⟨hi.1, hi.2.1, hl hi.2.2.1, ht hi.2.2.2⟩
  | bodyEnd left list text => exact ⟨hi.1, hl hi.2.1, ht hi.2.2⟩
  | worded left list text => exact ⟨hi.1, hl hi.2.1, ht hi.2.2⟩
  | line text => exact ht hi
  | lineEnd text => exact ht hi
theorem PairAt.keep {W W' : World} {base : Nat} {ad : Nat → Addr} {bp br : Nat} {d : Nat → Prop} {T : Nat} {p : PS} (h : PairAt W base ad bp br d T p) (h1 : W'.heap[bp]? = W.heap[bp]?) (h2 : W'.heap[br]? = W.heap[br]?) (hd : ∀ k, d k → k < W.heap.size → W'.heap[k]? = W.heap[k]?) : PairAt W' base ad bp br d T p := by
  cases p with
  | live st wp wr => exact ⟨rep_keep h.1 h1 hd, h.2.1, h2.trans h.2.2.1, h.2.2.2⟩
  | dead k =>
    obtain ⟨⟨v0, v2, v3, v4, v5, v6, v7, v8, v9, hr⟩, hn, hk⟩ := h
    exact ⟨⟨v0, v2, v3, v4, v5, v6, v7, v8, v9, h1.trans hr⟩, h2.trans hn, hk⟩
theorem PairAt.mono {W : World} {base : Nat} {ad : Nat → Addr} {bp br : Nat} {d d' : Nat → Prop} {T T' : Nat} {p : PS} (h : PairAt W base ad bp br d T p) (hd : ∀ k, d k → k < W.heap.size → d' k) (hT : T ≤ T') : PairAt W base ad bp br d' T' p := by
  cases p with
  | live st wp wr => exact ⟨rep_mono h.1 hd, h.2.1, h.2.2.1, h.2.2.2.1, Nat.le_trans h.2.2.2.2 hT⟩
  | dead k => exact h
theorem sync_le {st : St} {wp wr : ByteArray} (h : Sync st wp wr) : wp.size ≤ wr.size := by
  obtain ⟨P, rfl, _⟩ := h
  rw [ByteArray.size_append]
  omega
/-- Both pairs: each has rows of its own; what is neither's stays. h: the place of the first block. -/
structure TwoAt (base h : Nat) (ad : Nat → Addr) (Wb W : World) (p : Nat → PS) (d : Nat → Nat → Prop) (T : Nat) : Prop where
  size : Wb.heap.size ≤ W.heap.size
  os : W.os = Wb.os
  tape : W.tape = Wb.tape
  output : W.output = Wb.output
  stay : ∀ i, i < Wb.heap.size → i ≠ h → i ≠ h + 1 → i ≠ h + 3 → i ≠ h + 4 → W.heap[i]? = Wb.heap[i]?
  pair : ∀ k, k < 2 → PairAt W base ad (h + k) (h + 3 + k) (d k) T (p k)
  dom : ∀ k x, k < 2 → d k x → Wb.heap.size ≤ x ∧ x < W.heap.size
  apart : ∀ x, ¬ (d 0 x ∧ d 1 x)
/-- One pair has gone on, the other is as it was. -/
theorem TwoAt.step {base h : Nat} {ad : Nat → Addr} {Wb W W' : World} {p : Nat → PS} {d : Nat → Nat → Prop} {T T' : Nat} (t : TwoAt base h ad Wb W p d T) (hh : h + 6 ≤ Wb.heap.size) (kk : Nat) (hk : kk < 2) (hT : T ≤ T')
    (hos : W'.os = W.os) (htape : W'.tape = W.tape) (hout : W'.output = W.output) (hsz : W.heap.size ≤ W'.heap.size)
    (hst : ∀ i, i < W.heap.size → i ≠ h + kk → i ≠ h + 3 + kk → ¬ d kk i → W'.heap[i]? = W.heap[i]?) {q : PS} (hq : PairAt W' base ad (h + kk) (h + 3 + kk) (fun x => d kk x ∨ W.heap.size ≤ x) T' q) :
    TwoAt base h ad Wb W' (fun k => if k = kk then q else p k) (fun k x => if k = kk then (d kk x ∨ W.heap.size ≤ x) ∧ x < W'.heap.size else d k x) T' := by
  have hs := t.size
  refine ⟨by omega, hos.trans t.os, htape.trans t.tape, hout.trans t.output, fun i hi a1 a2 a3 a4 => ?_, fun k hk2 => ?_, fun k x hk2 hx => ?_, fun x => ?_⟩
  · rw [hst i (by omega) (by omega) (by omega) (fun hd => by have := (t.dom kk i hk hd).1; omega)]
    exact t.stay i hi a1 a2 a3 a4
  · by_cases e : k = kk
    · subst e
      simp only [if_true]
      exact hq.mono (fun x hx hlt => ⟨hx, hlt⟩) (Nat.le_refl _)
    · simp only [if_neg e]
      refine (((t.pair k hk2).keep (hst _ (by omega) (by omega) (by omega) (fun hd => by have := (t.dom kk _ hk hd).1; omega)) (hst _ (by omega) (by omega) (by omega) (fun hd => by have := (t.dom kk _ hk hd).1; omega)) (fun x hx hlt => ?_))).mono (fun x hx _ => hx) hT
      have hdx := t.dom k x hk2 hx
      refine hst x hlt (by omega) (by omega) (fun hd => t.apart x ?_)
      rcases (show (k = 0 ∧ kk = 1) ∨ (k = 1 ∧ kk = 0) by omega) with ⟨rfl, rfl⟩ | ⟨rfl, rfl⟩
      · exact ⟨hx, hd⟩
      · exact ⟨hd, hx⟩
  · by_cases e : k = kk
    · subst e
      simp only [if_true] at hx
      rcases hx.1 with hx' | hx'
      · exact ⟨(t.dom k x hk hx').1, hx.2⟩
      · exact ⟨by omega, hx.2⟩
    · simp only [if_neg e] at hx
      have := t.dom k x hk2 hx
      exact ⟨this.1, by omega⟩
  · rcases (show kk = 0 ∨ kk = 1 by omega) with rfl | rfl
    · simp only [if_true]
      rintro ⟨⟨h1, _⟩, h2⟩
      simp only [if_neg (show ¬ (1 = 0) by omega)] at h2
      rcases h1 with h1 | h1
      · exact t.apart x ⟨h1, h2⟩
      · have := (t.dom 1 x (by omega) h2).2; omega
    · simp only [if_neg (show ¬ (0 = 1) by omega)]
      rintro ⟨h1, ⟨h2, _⟩⟩
      rcases h2 with h2 | h2
      · exact t.apart x ⟨h1, h2⟩
      · have := (t.dom 0 x (by omega) h1).2; omega
end Go.Proofs.YtbdfjiobegadjaaDoor.Rf
/- Two pairs of readers in memory: made, fed, asked. Plain. -/
namespace Go.Proofs.YtbdfjiobegadjaaDoor.Rf
open Go Go.RowKit Go.Proofs.YtbdfjiobegadjaaDoor.Op Go.Proofs.YtbdfjiobegadjaaDoor.Tk Go.Proofs.YtbdfjiobegadjaaDoor.Pl Go.Proofs.YtbdfjiobegadjaaDoor.Rd Go.Proofs.YtbdfjiobegadjaaDoor.PWireMemory Go.Proofs.YtbdfjiobegadjaaDoorW.PrintWords Go.Proofs.YtbdfjiobegadjaaDoorW.PrintLast Go.Proofs.YtbdfjiobegadjaaDoorW.PrintMore
set_option linter.unusedVariables false
set_option linter.unusedSectionVars false
set_option linter.unusedSimpArgs false
theorem at_S {w : World} {A : Option Addr} {n : Nat} {l : List ByteArray} (h : Kd.string.C w A n l) (i : Nat) (hi : i < n) : ∃ a, A = some a ∧ w.cell? (a.add i) = some (.string (l.getD i ⟨#[]⟩)) := by
  obtain ⟨a, c, hA, hl, hK, hc⟩ := Kd.C_get h ⟨#[]⟩ (i : Int) (by omega) (by omega)
  refine ⟨a, hA, ?_⟩
  have hc0 : ∀ j u, c[j]? = some u → w.cell? (a.add (i * 1 + j)) = some u := fun j u hu => hc j u hu
  obtain rfl : c = [.string (l.getD i ⟨#[]⟩)] := by simpa [Kd.string, Kd.scalar] using hK
  simpa using hc0 0 _ rfl
theorem infoStr : (Tryd.prog.info? 9).map (fun i => (i.zero, i.size, i.bytes)) = some (some (.string ⟨#[]⟩), 1, 16) := by kernel_rfl
set_option maxHeartbeats 1000000 in
theorem same_strings (l : List ByteArray) (W : World) (A B : Option Addr) (c d : Nat) (hA : Kd.string.C W A l.length l) (hB : Kd.string.C W B l.length l) :
    Calls Tryd.prog 21 #[.slice A l.length c, .slice B l.length d] W fun e w' => e = .returned (.bool true) ∧ Below W.heap.size W w' := by
  have HA := Aside0.mk hA
  have HB := Aside0.mk hB
  have hm := Kd.C_max hA
  clear hA hB
  go_enter Tryd.func21, Tryd.ntmps21
  go_wp2_with fail
  go_loopw [5] (fun v5 W' => ∃ i : Nat, v5 = .int .i64 i ∧ i ≤ l.length ∧ Aside0 (Below W.heap.size W W')) (fun v5 _ => l.length - (intOf v5).toNat)
  case atStart => exact ⟨0, rfl, by omega, ⟨Below.refl _ _⟩⟩
  case round =>
    obtain ⟨i, rfl, hi, HW⟩ := hrel
    by_cases hlt : i < l.length
    · have hlt' : (i : Int) < (l.length : Int) := by omega
      obtain ⟨a, rfl, ha⟩ := at_S (Kd.C_below HA.out HW.out) i hlt
      obtain ⟨b, rfl, hb⟩ := at_S (Kd.C_below HB.out HW.out) i hlt
      generalize l.getD i ⟨#[]⟩ = s at ha hb
      go_wp2_with fail
      go_quiet (fail)
      go_wp2_with fail
      go_roundw
      case rel => exact ⟨i + 1, by go_num, by omega, ⟨pw_below_drewN HW.out _⟩⟩
      case measure => simp [intOf]; omega
    · have hlt' : ¬ (i : Int) < (l.length : Int) := by omega
      go_wp2_with fail
      go_ret
      exact ⟨rfl, HW.out⟩
def pickF (k n : Int) : Int := if Int.tmod k n < 0 then Int.tmod k n + n else Int.tmod k n
theorem pickF_range (k n : Int) (hn : 1 ≤ n) : 0 ≤ pickF k n ∧ pickF k n < n := by
  have h1 := Int.tmod_lt_of_pos k (show 0 < n by omega)
  have h2 : -n < Int.tmod k n := by
    have := Int.lt_tmod_of_pos k (show 0 < n by omega)
    omega
  unfold pickF
  split <;> omega
set_option maxRecDepth 100000 in
theorem pick_walk (k n : Int) (hn : 1 ≤ n) (hm : n ≤ 9223372036854775807) (W : World) : Calls Tryd.prog 16 #[.int .i64 k, .int .i64 n] W fun e w' => e = .returned (.int .i64 (pickF k n)) ∧ w' = W := by
  have h1 : ¬ n < 1 := by omega
  have h0 : (n == 0) = false := by rw [beq_eq_false_iff_ne]; omega
  have hn0 : ¬ n = 0 := by omega
  have hr := pickF_range k n hn
  have hlt := Int.tmod_lt_of_pos k (show 0 < n by omega)
  by_cases hneg : Int.tmod k n < 0
  · have e : pickF k n = Int.tmod k n + n := if_pos hneg
    rw [e] at hr
    go_enter Tryd.func16, Tryd.ntmps16
    go_wp2_with fail
    go_ret
    exact ⟨rfl, rfl⟩
  · have e : pickF k n = Int.tmod k n := if_neg hneg
    go_enter Tryd.func16, Tryd.ntmps16
    go_wp2_with fail
    go_ret
    exact ⟨rfl, rfl⟩
theorem en_here {W : World} {ad : Nat → Addr} (h : Errs W ad) : EN W.heap.size W ad := by
  refine ⟨h, ?_, fun i hi => by obtain ⟨c, t, hb⟩ := h.blk i hi; exact blk_lt hb⟩
  have := h.cell 12 (by omega)
  by_cases hl : 13 ≤ W.heap.size
  · exact hl
  · exfalso
    simp only [World.cell?] at this
    rw [Array.getElem?_eq_none (by omega)] at this
    cases this
abbrev Step := Int × Bool × ByteArray
def k42 : Kd Step := Kd.pair (Kd.int .i64) (Kd.pair Kd.bool Kd.string)
theorem info42 : (Tryd.prog.info? 42).map (fun i => (i.zero, i.size, i.bytes)) = some (some (.agg #[.int .i64 0, .bool false, .string ⟨#[]⟩]), 3, 32) := by kernel_rfl
theorem k42_form {w : World} {x : Step} {cs : List Value} (h : k42.K w x cs) : cs = [.int .i64 x.1, .bool x.2.1, .string x.2.2] := by
  obtain ⟨_, _, rfl, rfl, _, _, rfl, rfl, rfl⟩ := h
  rfl
theorem k42_mk (w : World) (x : Step) : k42.K w x [.int .i64 x.1, .bool x.2.1, .string x.2.2] := ⟨[.int .i64 x.1], [.bool x.2.1, .string x.2.2], rfl, rfl, [.bool x.2.1], [.string x.2.2], rfl, rfl, rfl⟩
/-- The bytes of all Feeds from i on, Cap - sum so far. -/
def fedN (l : List Step) : Nat := (l.map (fun x => x.2.2.size)).sum
theorem fed_snoc (l : List Step) (i : Nat) (h : i < l.length) : fedN (l.take (i + 1)) = fedN (l.take i) + (l[i]).2.2.size := by
  unfold fedN
  rw [List.take_succ_eq_append_getElem h, List.map_append, List.sum_append]
  simp
theorem fed_le (l : List Step) (i : Nat) : fedN (l.take i) ≤ fedN l := by
  have : l = l.take i ++ l.drop i := (List.take_append_drop i l).symm
  unfold fedN
  conv => rhs; rw [this, List.map_append, List.sum_append]
  omega
theorem k42_at {w : World} {A : Option Addr} {n : Nat} {l : List Step} (h : k42.C w A n l) (i : Nat) (hi : i < l.length) : ∃ a, A = some a ∧ w.cell? (a.add (i * 3)) = some (.int .i64 (l[i]).1) ∧ w.cell? ⟨(a.add (i * 3)).block, (a.add (i * 3)).off + 1, none⟩ = some (.bool (l[i]).2.1) ∧ w.cell? ⟨(a.add (i * 3)).block, (a.add (i * 3)).off + 2, none⟩ = some (.string (l[i]).2.2) := by
  obtain ⟨a, c, hA, hl, hK, hc⟩ := Kd.C_get h (0, false, ⟨#[]⟩) (i : Int) (by omega) (by have := h.1; omega)
  have hc0 : ∀ j u, c[j]? = some u → w.cell? (a.add (i * 3 + j)) = some u := fun j u hu => hc j u hu
  have hg : l.getD i (0, false, ⟨#[]⟩) = l[i] := by rw [List.getD_eq_getElem?_getD, List.getElem?_eq_getElem hi]; rfl
  have hK : k42.K w (l.getD i (0, false, ⟨#[]⟩)) c := hK
  rw [hg] at hK
  have hf := k42_form hK
  subst hf
  have ha : ∀ j, j ≠ 0 → (⟨(a.add (i * 3)).block, (a.add (i * 3)).off + j, none⟩ : Addr) = a.add (i * 3 + j) := fun j hj => by
    unfold Addr.add
    by_cases hz : i * 3 = 0 <;> simp [hz, hj, Nat.add_assoc]
  refine ⟨a, hA, hc0 0 _ rfl, ?_, ?_⟩
  · rw [ha 1 (by omega)]; exact hc0 1 _ rfl
  · rw [ha 2 (by omega)]; exact hc0 2 _ rfl
abbrev two : List Step := [(0, true, ⟨#[]⟩), (1, true, ⟨#[]⟩)]
abbrev twoO : Obj := .cells #[.int .i64 0, .bool true, .string ⟨#[]⟩, .int .i64 1, .bool true, .string ⟨#[]⟩] 42
theorem two_C (W : World) : k42.C (W.alloc twoO) (some ⟨W.heap.size, 0, none⟩) 2 two := by
  have h0 := (MapKept.heap_alloc W twoO).1
  refine ⟨rfl, by omega, fun _ => ⟨_, rfl, fun j p hj => ?_⟩⟩
  have hc : ∀ i, (W.alloc twoO).cell? ⟨W.heap.size, i, none⟩ = #[Value.int .i64 0, .bool true, .string ⟨#[]⟩, .int .i64 1, .bool true, .string ⟨#[]⟩][i]? := fun i => blk_cell h0 i
  refine ⟨[.int .i64 p.1, .bool p.2.1, .string p.2.2], rfl, k42_mk _ _, fun i u hi => ?_⟩
  rw [show k42.sz = 3 from rfl, show Addr.add ⟨W.heap.size, 0, none⟩ (j * 3 + i) = ⟨W.heap.size, j * 3 + i, none⟩ by simp [Addr.add]; intros; omega, hc]
  match j, hj with
  | 0, hj =>
    obtain rfl : (0, true, ⟨#[]⟩) = p := by simpa using hj
    match i, hi with
    | 0, hi => simpa using hi
    | 1, hi => simpa using hi
    | 2, hi => simpa using hi
    | i + 3, hi => simp at hi
  | 1, hj =>
    obtain rfl : (1, true, ⟨#[]⟩) = p := by simpa using hj
    match i, hi with
    | 0, hi => simpa using hi
    | 1, hi => simpa using hi
    | 2, hi => simpa using hi
    | i + 3, hi => simp at hi
  | j + 2, hj => simp at hj
abbrev rz (b : Nat) : Obj := .cells #[.string ⟨#[]⟩, .nilIface, mv 37 b, .nilFunc, .int .i64 0, .int .i64 0, .int .i64 0, .int .i64 0, .slice none 0 0, .slice none 0 0] 92
abbrev nz : Obj := .cells #[.string ⟨#[]⟩, .int .i64 0] 94
abbrev pp (t a b : Nat) : Obj := .cells #[.pointer (some ⟨a, 0, none⟩), .pointer (some ⟨b, 0, none⟩)] t
abbrev made (W : World) : World := (((((W.alloc (rz W.heap.size)).alloc (rz (W.heap.size + 1))).alloc (pp 35 W.heap.size (W.heap.size + 1))).alloc nz).alloc nz).alloc (pp 38 (W.heap.size + 1 + 1 + 1) (W.heap.size + 1 + 1 + 1 + 1))
/-- What stands in memory when both readers, twice, have been made. -/
structure MadeAt (W Wm : World) : Prop where
  below : Below W.heap.size W Wm
  size : Wm.heap.size = W.heap.size + 6
  r0 : Wm.heap[W.heap.size]? = some (rz W.heap.size)
  r1 : Wm.heap[W.heap.size + 1]? = some (rz (W.heap.size + 1))
  sl : Wm.heap[W.heap.size + 2]? = some (pp 35 W.heap.size (W.heap.size + 1))
  n0 : Wm.heap[W.heap.size + 3]? = some nz
  n1 : Wm.heap[W.heap.size + 4]? = some nz
  sr : Wm.heap[W.heap.size + 5]? = some (pp 38 (W.heap.size + 3) (W.heap.size + 4))
theorem made_at (W : World) : MadeAt W (made W) := by
  refine ⟨?_, ?_, ?_, ?_, ?_, ?_, ?_, ?_⟩
  · exact below_alloc (below_alloc (below_alloc (below_alloc (below_alloc (below_alloc (Below.refl _ _) _) _) _) _) _) _
  · simp [made]
  all_goals
    rw [show (made W).heap = (((((W.heap.push (rz W.heap.size)).push (rz (W.heap.size + 1))).push (pp 35 W.heap.size (W.heap.size + 1))).push nz).push nz).push (pp 38 (W.heap.size + 1 + 1 + 1) (W.heap.size + 1 + 1 + 1 + 1)) from rfl]
    simp only [Array.getElem?_push, Array.size_push]
    repeat' split
    all_goals try (exfalso; omega)
    all_goals try rfl
    all_goals simp_all
theorem fed_two (L : List Step) (i : Nat) (h : fedN L ≤ 16777216) : fedN ((L ++ two).take i) ≤ 16777216 := by
  refine Nat.le_trans (fed_le _ i) ?_
  unfold fedN at *
  rw [List.map_append, List.sum_append]
  have : ((two.map (fun x => x.2.2.size)).sum) = 0 := rfl
  omega
theorem size_two (L : List Step) (hs : ∀ x ∈ L, x.2.2.size ≤ 140737488355328) : ∀ x ∈ L ++ two, x.2.2.size ≤ 140737488355328 := by
  intro x hx
  rcases List.mem_append.1 hx with hx | hx
  · exact hs x hx
  · simp [two] at hx
    rcases hx with rfl | rfl <;> exact Nat.zero_le _
theorem two_start (W wr w2 : World) (ad : Nat → Addr) (hM : MadeAt W wr) (hB : Below wr.heap.size wr w2) : TwoAt W.heap.size W.heap.size ad w2 w2 (fun _ => .live .start ⟨#[]⟩ ⟨#[]⟩) (fun _ _ => False) 0 := by
  have hz := hM.size
  refine ⟨Nat.le_refl _, rfl, rfl, rfl, fun _ _ _ _ _ _ => rfl, fun k hk => ?_, fun k x _ h => h.elim, fun x h => h.1⟩
  rcases (show k = 0 ∨ k = 1 by omega) with rfl | rfl
  · exact ⟨⟨_, _, _, _, _, _, _, (hB.block _ (by omega)).trans hM.r0, trivial⟩, trivial, (hB.block _ (by omega)).trans hM.n0, sync_new, Nat.le_refl _⟩
  · exact ⟨⟨_, _, _, _, _, _, _, (hB.block _ (by omega)).trans hM.r1, trivial⟩, trivial, (hB.block _ (by omega)).trans hM.n1, sync_new, Nat.le_refl _⟩
/-- What is neither reader's stays. -/
def Stay (h : Nat) (w2 W' : World) : Prop := ∀ i, i < w2.heap.size → i ≠ h → i ≠ h + 1 → i ≠ h + 3 → i ≠ h + 4 → W'.heap[i]? = w2.heap[i]?
/-- The readers' addresses, and the steps, at a round of the loop. -/
theorem two_facts {W wr w2 W' : World} {a : Option Addr} {n c : Nat} {S : List Step} (hM : MadeAt W wr) (hB : Below wr.heap.size wr w2) (h : Stay W.heap.size w2 W') (k : Nat) (hk : k < 2) :
    W'.cell? ⟨W.heap.size + 1 + 1, k, none⟩ = some (.pointer (some ⟨W.heap.size + k, 0, none⟩)) ∧ W'.cell? ⟨W.heap.size + 1 + 1 + 1 + 1 + 1, k, none⟩ = some (.pointer (some ⟨W.heap.size + 3 + k, 0, none⟩)) := by
  have hz := hM.size
  have hz2 := hB.size
  have h1 := (h _ (by omega) (by omega) (by omega) (by omega) (by omega)).trans ((hB.block _ (by omega)).trans hM.sl)
  have h2 := (h _ (by omega) (by omega) (by omega) (by omega) (by omega)).trans ((hB.block _ (by omega)).trans hM.sr)
  refine ⟨(blk_cell h1 k).trans ?_, (blk_cell h2 k).trans ?_⟩
  · rcases (show k = 0 ∨ k = 1 by omega) with rfl | rfl <;> rfl
  · rcases (show k = 0 ∨ k = 1 by omega) with rfl | rfl <;> rfl
theorem two_steps {W wr w2 W' : World} {A : Option Addr} {n c : Nat} {S : List Step} (hM : MadeAt W wr) (hB : Below wr.heap.size wr w2) (h : Stay W.heap.size w2 W') (hS : k42.R 42 w2 wr.heap.size (fun _ => True) (.slice A n c) S) : k42.C W' A S.length S := by
  have hz := hM.size
  have h1 : k42.R 42 W' wr.heap.size _ (.slice A n c) S := Kd.R_move (Kd.R_bound hS) (fun x hx => h x hx.2.2.1 (by have := hx.2.1; omega) (by have := hx.2.1; omega) (by have := hx.2.1; omega) (by have := hx.2.1; omega))
  exact (Kd.R_reads' h1).2.2
theorem k42_at' {w : World} {a : Addr} {n : Nat} {l : List Step} (h : k42.C w (some a) n l) (i : Nat) (hi : i < l.length) : w.cell? (a.add (i * 3)) = some (.int .i64 (l[i]).1) ∧ w.cell? ⟨(a.add (i * 3)).block, (a.add (i * 3)).off + 1, none⟩ = some (.bool (l[i]).2.1) ∧ w.cell? ⟨(a.add (i * 3)).block, (a.add (i * 3)).off + 2, none⟩ = some (.string (l[i]).2.2) := by
  obtain ⟨a', e, h1⟩ := k42_at h i hi
  cases e
  exact h1
theorem two_below {W wr w2 W' : World} {base : Nat} {ad : Nat → Addr} {p : Nat → PS} {d : Nat → Nat → Prop} {T : Nat} (hM : MadeAt W wr) (hB : Below wr.heap.size wr w2) (h : TwoAt base W.heap.size ad w2 W' p d T) : Below W.heap.size wr W' := by
  have hz := hM.size
  have hz2 := hB.size
  have hz3 := h.size
  refine ⟨h.os.trans hB.os, h.tape.trans hB.tape, h.output.trans hB.output, by omega, fun k hk => ?_⟩
  rw [h.stay k (by omega) (by omega) (by omega) (by omega) (by omega)]
  exact hB.block k (by omega)
theorem two_en {W wr w2 W' : World} {base : Nat} {ad ae : Nat → Addr} {p : Nat → PS} {d : Nat → Nat → Prop} {T : Nat} (hE : Errs W ad) (hM : MadeAt W wr) (hB : Below wr.heap.size wr w2) (h : TwoAt base W.heap.size ae w2 W' p d T) : EN W.heap.size W' ad :=
  (en_here hE).below (hM.below.trans (two_below hM hB h))
theorem TwoAt.drewN {base h : Nat} {ad : Nat → Addr} {Wb W : World} {p : Nat → PS} {d : Nat → Nat → Prop} {T : Nat} (t : TwoAt base h ad Wb W p d T) (n : Nat) : TwoAt base h ad Wb (W.drewN n) p d T :=
  ⟨t.size, t.os, t.tape, t.output, t.stay, fun k hk => (t.pair k hk).keep rfl rfl (fun _ _ _ => rfl), t.dom, t.apart⟩
theorem TwoAt.more {base h : Nat} {ad : Nat → Addr} {Wb W : World} {p : Nat → PS} {d : Nat → Nat → Prop} {T T' : Nat} (t : TwoAt base h ad Wb W p d T) (hT : T ≤ T') : TwoAt base h ad Wb W p d T' :=
  ⟨t.size, t.os, t.tape, t.output, t.stay, fun k hk => (t.pair k hk).mono (fun _ h _ => h) hT, t.dom, t.apart⟩
theorem TwoAt.below {base h : Nat} {ad : Nat → Addr} {Wb W W' : World} {p : Nat → PS} {d : Nat → Nat → Prop} {T : Nat} (t : TwoAt base h ad Wb W p d T) (b : Below W.heap.size W W') : TwoAt base h ad Wb W' p d T := by
  have hs := t.size
  have hz := b.size
  refine ⟨by omega, b.os.trans t.os, b.tape.trans t.tape, b.output.trans t.output, fun i hi a1 a2 a3 a4 => (b.block i (by omega)).trans (t.stay i hi a1 a2 a3 a4), fun k hk => ?_, fun k x hk hx => by have := t.dom k x hk hx; omega, t.apart⟩
  have hp := t.pair k hk
  have h1 : h + k < W.heap.size ∧ h + 3 + k < W.heap.size := by
    cases e : p k with
    | live st wp wr => rw [e] at hp; obtain ⟨⟨_, _, _, _, _, _, _, hr, _⟩, _, hn, _⟩ := hp; exact ⟨blk_lt hr, blk_lt hn⟩
    | dead kk => rw [e] at hp; obtain ⟨⟨_, _, _, _, _, _, _, _, _, hr⟩, hn, _⟩ := hp; exact ⟨blk_lt hr, blk_lt hn⟩
  exact hp.keep (b.block _ h1.1) (b.block _ h1.2) (fun x _ hx => b.block x hx)
/-- One live pair has been fed. -/
theorem two_feed {base h : Nat} {ad : Nat → Addr} {Wb W w5 w6 : World} {p : Nat → PS} {d : Nat → Nat → Prop} {T : Nat} (t : TwoAt base h ad Wb W p d T) (hh : h + 6 ≤ Wb.heap.size) (k : Nat) (hk : k < 2) (dd wp wr : ByteArray) (st : St) (hp : p k = .live st wp wr)
    (q : Rep w5 base (d k) (h + k) (wp ++ dd) st) (e5 : w5 = W.drew.setCell ⟨h + k, 0, none⟩ (.string (wp ++ dd))) (e6 : w6 = w5.drew.setCell ⟨h + 3 + k, 0, none⟩ (.string (wr ++ dd))) : ∃ p' d', TwoAt base h ad Wb w6 p' d' (T + dd.size) := by
  have hP := t.pair k hk
  rw [hp] at hP
  obtain ⟨h1, h2, h3, h4, h5⟩ := hP
  have hn5 : NAt w5 (h + 3 + k) wr 0 := by rw [e5]; exact blk_far (w := W.drew) h3 (p := ⟨h + k, 0, none⟩) (by simp <;> omega) _
  have hn6 : NAt w6 (h + 3 + k) (wr ++ dd) 0 := by rw [e6]; exact blk_set (w := w5.drew) hn5 0 _
  have hk6 : ∀ i, i ≠ h + 3 + k → w6.heap[i]? = w5.heap[i]? := fun i hi => by rw [e6]; exact Below.heap_setCell w5.drew ⟨h + 3 + k, 0, none⟩ _ i hi
  have hk5 : ∀ i, i ≠ h + k → w5.heap[i]? = W.heap[i]? := fun i hi => by rw [e5]; exact Below.heap_setCell W.drew ⟨h + k, 0, none⟩ _ i hi
  have hs5 : w5.heap.size = W.heap.size := by rw [e5]; simp [World.setCell]
  have hs6 : w6.heap.size = W.heap.size := by rw [← hs5, e6]; simp [World.setCell]
  have hr6 : Rep w6 base (d k) (h + k) (wp ++ dd) st := rep_keep q (hk6 _ (by omega)) (fun x hx _ => hk6 x (by have := (t.dom k x hk hx).1; omega))
  exact ⟨_, _, t.step hh k hk (T' := T + dd.size) (by omega) (by rw [e6, e5]; rfl) (by rw [e6, e5]; rfl) (by rw [e6, e5]; rfl) (by omega)
    (fun i _ a1 a2 _ => (hk6 i a2).trans (hk5 i a1)) (q := .live st (wp ++ dd) (wr ++ dd)) ⟨rep_mono hr6 (fun x hx _ => .inl hx), h2, hn6, h4.feed dd, by rw [ByteArray.size_append]; omega⟩⟩
theorem two_stay5 {base h : Nat} {ad : Nat → Addr} {Wb W w5 : World} {p : Nat → PS} {d : Nat → Nat → Prop} {T : Nat} (t : TwoAt base h ad Wb W p d T) (k : Nat) (hk : k < 2) {v : Value} (e5 : w5 = W.drew.setCell ⟨h + k, 0, none⟩ v) : Stay h Wb w5 := fun i hi a1 a2 a3 a4 => by
  rw [e5, Below.heap_setCell W.drew ⟨h + k, 0, none⟩ _ i (by simp; omega)]
  exact t.stay i hi a1 a2 a3 a4
theorem two_nat5 {base h : Nat} {ad : Nat → Addr} {Wb W w5 : World} {p : Nat → PS} {d : Nat → Nat → Prop} {T : Nat} (t : TwoAt base h ad Wb W p d T) (k : Nat) (hk : k < 2) {v : Value} (e5 : w5 = W.drew.setCell ⟨h + k, 0, none⟩ v) {wp wr : ByteArray} {st : St} (hp : p k = .live st wp wr) : NAt w5 (h + 3 + k) wr 0 := by
  have hP := t.pair k hk
  rw [hp] at hP
  rw [e5]
  exact blk_far (w := W.drew) hP.2.2.1 (p := ⟨h + k, 0, none⟩) (by simp <;> omega) _
abbrev domN (d : Nat → Nat → Prop) (k : Nat) (W : World) : Nat → Prop := fun x => d k x ∨ W.heap.size ≤ x
theorem two_cx {base h : Nat} {ad : Nat → Addr} {Wb W : World} {p : Nat → PS} {d : Nat → Nat → Prop} {T : Nat} (t : TwoAt base h ad Wb W p d T) (hb : base ≤ W.heap.size) (hh : h + 6 ≤ Wb.heap.size) (hE : EN h W ad) (k : Nat) (hk : k < 2) : Cx h base (h + k) (domN d k W) ad W :=
  ⟨hE, by omega, hb, fun x hx => .inr hx, fun x hx => by
    have := t.size
    rcases hx with hx | hx
    · have := (t.dom k x hk hx).1; omega
    · omega⟩
theorem runF_ok {s : ByteArray} : ∀ {f i : Nat} {st st' : St}, st.ok → runF s f i st = .more st' → st'.ok
  | 0, _, st, st', h, e => by cases e; exact h
  | f + 1, i, st, st', h, e => by
    rw [runF] at e
    split at e
    · rename_i st1 h1
      exact runF_ok (stepF_ok (bt_range s i) h h1) e
    · cases e
    · cases e
section
variable {base h : Nat} {ad : Nat → Addr} {Wb W w5 w6 w7 : World} {p : Nat → PS} {d : Nat → Nat → Prop} {T : Nat} (t : TwoAt base h ad Wb W p d T) (hh : h + 6 ≤ Wb.heap.size) (k : Nat) (hk : k < 2)
include t hh hk
theorem two_dom {x : Nat} (hx : domN d k W x) : Wb.heap.size ≤ x := by
  rcases hx with hx | hx
  · exact (t.dom k x hk hx).1
  · exact Nat.le_trans t.size hx
theorem two_stay (o5 : OnlyD (h + k) (domN d k W) W w5) : Stay h Wb w5 := fun i hi a1 a2 a3 a4 =>
  (o5.keep i (Nat.lt_of_lt_of_le hi t.size) (by omega) (fun hd => by have := two_dom t hh k hk hd; omega)).trans (t.stay i hi a1 a2 a3 a4)
theorem two_nat (o5 : OnlyD (h + k) (domN d k W) W w5) {wp wr : ByteArray} {st : St} (hp : p k = .live st wp wr) : NAt w5 (h + 3 + k) wr 0 := by
  have hP := t.pair k hk
  rw [hp] at hP
  exact (o5.keep _ (blk_lt hP.2.2.1) (by omega) (fun hd => by have := two_dom t hh k hk hd; omega)).trans hP.2.2.1
theorem two_ask (o5 : OnlyD (h + k) (domN d k W) W w5) (o6 : Only (h + 3 + k) w5 w6) (b7 : Below w6.heap.size w6 w7) {q : PS} (hq : PairAt w6 base ad (h + k) (h + 3 + k) (domN d k W) T q) : ∃ p' d', TwoAt base h ad Wb w7 p' d' T := by
  have s5 := o5.size
  have s6 := o6.size
  have s7 := b7.size
  have ht := t.size
  have hst : ∀ i, i < W.heap.size → i ≠ h + k → i ≠ h + 3 + k → ¬ d k i → w7.heap[i]? = W.heap[i]? := fun i hi a1 a2 a3 => by
    rw [b7.block i (by omega), o6.keep i (by omega) a2, o5.keep i hi a1 (fun hd => hd.elim a3 (by omega))]
  refine ⟨_, _, t.step hh k hk (T' := T) (Nat.le_refl _) (b7.os.trans (o6.os.trans o5.os)) (b7.tape.trans (o6.tape.trans o5.tape)) (b7.output.trans (o6.output.trans o5.output)) (by omega) hst (q := q) ?_⟩
  exact hq.keep (b7.block _ (by omega)) (b7.block _ (by omega)) (fun x _ hx => b7.block x hx)
theorem two_rows (o6 : Only (h + 3 + k) w5 w6) : ∀ x, domN d k W x → x < w5.heap.size → w6.heap[x]? = w5.heap[x]? := fun x hx hl => o6.keep x hl (by have := two_dom t hh k hk hx; omega)
end
end Go.Proofs.YtbdfjiobegadjaaDoor.Rf
