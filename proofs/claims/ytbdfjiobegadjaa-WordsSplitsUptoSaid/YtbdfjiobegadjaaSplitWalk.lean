/- The walk of words.Split. -/
import Derived.Test.YtbdfjiobegadjaaSplit
namespace Go.Proofs.Ytbdfjiobegadjaa.Split
open Go.RowKit Go.Proofs.Ytbdfjiobegadjaa.PWordsSplits Go.Proofs.YtbdfjiobegadjaaW.PrintWords Go.Proofs.YtbdfjiobegadjaaW.PrintLast Go.Proofs.YtbdfjiobegadjaaW.PrintMore
set_option linter.unusedVariables false
/-- What holds of the world while a text is gone through: the two captured cells, the iterator, what is still to be read. -/
structure At (s : ByteArray) (w W : World) (pos : Nat) (out : List ByteArray) (now : List Int) (vl vw : Value) : Prop where
  pos_le : pos ≤ s.size
  out_le : out.length ≤ pos
  now_le : now.length ≤ 32
  fin_eq : fin (codes s pos) (out, now) = total s
  cellL : W.heap[w.heap.size]? = some (.cells #[vl] 22 (0, 0))
  cellD : W.heap[w.heap.size + 1]? = some (.cells #[vw] 26 (0, 0))
  iter : W.heap[w.heap.size + 1 + 1]? = some (.stringIter s pos)
  outs : Kd.R Kd.string 9 W w.heap.size (fun _ => True) vl out
  word : Kd.R (Kd.int .u8) 5 W w.heap.size (fun _ => True) vw now
  below : Below w.heap.size w W
def Inv (s : ByteArray) (w W : World) : Prop := ∃ pos out now vl vw, At s w W pos out now vl vw
theorem start_inv (s : ByteArray) (w : World) : Inv s w (((w.alloc (.cells #[.slice none 0 0] 22)).alloc (.cells #[.slice none 0 0] 26)).iter s 0) := by
  have e1 : (w.alloc (.cells #[.slice none 0 0] 22)).heap.size = w.heap.size + 1 := by simp
  have e2 : ((w.alloc (.cells #[.slice none 0 0] 22)).alloc (.cells #[.slice none 0 0] 26)).heap.size = w.heap.size + 1 + 1 := by simp
  have hit : ∀ (u : World), u.iter s 0 = u.alloc (.stringIter s 0) := fun u => rfl
  refine ⟨0, [], [], .slice none 0 0, .slice none 0 0, Nat.zero_le _, Nat.le_refl _, by simp, rfl, ?_, ?_, ?_, Kd.R_nil _ _ _ _ _, Kd.R_nil _ _ _ _ _, ?_⟩
  · rw [hit, (MapKept.heap_alloc _ _).2 _ (by omega), (MapKept.heap_alloc _ _).2 _ (by omega)]
    exact (MapKept.heap_alloc _ _).1
  · rw [hit, (MapKept.heap_alloc _ _).2 _ (by omega), ← e1]
    exact (MapKept.heap_alloc _ _).1
  · rw [hit, ← e2]
    exact (MapKept.heap_alloc _ _).1
  · rw [hit]
    exact below_alloc (below_alloc (below_alloc (Below.refl _ _) _) _) _
/-- Behind 'next': the iterator stands further on; b is what the rune is made into. -/
structure Mid (s : ByteArray) (w W : World) (pos : Nat) (c : Int) (out : List ByteArray) (now : List Int) (vl vw : Value) : Prop where
  pos_le : pos ≤ s.size
  out_le : out.length < pos
  now_le : now.length ≤ 32
  fin_eq : fin (codes s pos) (stp c (out, now)) = total s
  cellL : W.heap[w.heap.size]? = some (.cells #[vl] 22 (0, 0))
  cellD : W.heap[w.heap.size + 1]? = some (.cells #[vw] 26 (0, 0))
  iter : W.heap[w.heap.size + 1 + 1]? = some (.stringIter s pos)
  outs : Kd.R Kd.string 9 W w.heap.size (fun _ => True) vl out
  word : Kd.R (Kd.int .u8) 5 W w.heap.size (fun _ => True) vw now
  below : Below w.heap.size w W
theorem R_iterAt {α : Type} {d : Kd α} {e : Nat} {w : World} {base : Nat} {ok : Nat → Prop} {v : Value} {xs : List α} (h : d.R e w base ok v xs) {k : Nat} {s : ByteArray} {pos : Nat} (hk : w.heap[k]? = some (.stringIter s pos)) (pos' : Nat) :
    d.R e (w.iterAt k s pos') base ok v xs := by
  refine Kd.R_mono (Kd.R_move (Kd.R_bound h) (fun j hj => ?_)) (fun _ hj => hj.1)
  obtain ⟨_, _, _, q, _, cells, hc⟩ := hj
  refine Lib.iterAt_other _ _ _ _ _ ?_
  intro e1
  rw [e1, hk] at hc
  cases hc
theorem At.next {s : ByteArray} {w W : World} {pos : Nat} {out : List ByteArray} {now : List Int} {vl vw : Value} (h : At s w W pos out now vl vw) (hlt : pos < s.size) :
    Mid s w (W.iterAt (w.heap.size + 1 + 1) s (pos + (Utf8.decode s pos).2)) (pos + (Utf8.decode s pos).2) (sm (Utf8.decode s pos).1) out now vl vw := by
  obtain ⟨r1, r2, r3⟩ := rune_step s pos hlt (out, now)
  refine ⟨r3, by have := h.out_le; omega, h.now_le, by rw [← r1]; exact h.fin_eq, ?_, ?_, Lib.iterAt_heap _ _ _ _ _ h.iter, R_iterAt h.outs h.iter _, R_iterAt h.word h.iter _, Lib.below_iterAt h.below (by omega) _ _⟩
  · rw [Lib.iterAt_other _ _ _ _ _ (by omega)]; exact h.cellL
  · rw [Lib.iterAt_other _ _ _ _ _ (by omega)]; exact h.cellD
theorem letter_c (c b : Int) (w : World) (h0 : 0 ≤ c) (h1 : c ≤ 2147483647) (hb : Hid (sm c = b)) : Calls Try.prog 8 #[.int .i32 c] w fun e w' => e = .returned (.int .u8 b) ∧ w = w' := by
  rw [← hb.out]; exact letter_any c w (by omega) h1
theorem rune_range (s : ByteArray) (pos : Nat) : 0 ≤ ((Utf8.decode s pos).1 : Int) ∧ ((Utf8.decode s pos).1 : Int) ≤ 2147483647 := ⟨by omega, by have := decode_le s pos; omega⟩
theorem iter_pos {w W : World} {s : ByteArray} {p : Nat} (h : W.heap[w.heap.size + 1 + 1]? = some (.stringIter s p)) : W.iterPos (w.heap.size + 1 + 1) = p := by simp [World.iterPos, h]
/-- No letter or digit: the word is put away. -/
theorem Mid.flushed {s : ByteArray} {w W W' : World} {pos : Nat} {out : List ByteArray} {now : List Int} {vl vw : Value} {e : Ending} (h : Mid s w W pos 0 out now vl vw) (hp : OverPost w.heap.size w.heap.size (w.heap.size + 1) out now W e W') :
    ∃ vl' vw', At s w W' pos (flush (out, now)).1 [] vl' vw' := by
  obtain ⟨_, ⟨vl', vw', h1, h2, h3, h4⟩, h5, h6⟩ := hp
  refine ⟨vl', vw', h.pos_le, ?_, by simp, ?_, h1, h2, h6 _ _ h.iter (by omega) (by omega) (fun _ he => by cases he), h3, h4, h.below.trans h5⟩
  · have := h.out_le
    unfold flush; simp only []; split <;> simp <;> omega
  · have := h.fin_eq
    simp only [stp] at this
    simp only [stp, true_or, if_true] at this
    exact this
/-- A letter is to be appended. -/
structure App (s : ByteArray) (w W : World) (pos : Nat) (c : Int) (out : List ByteArray) (now : List Int) (vl vw : Value) : Prop where
  pos_le : pos ≤ s.size
  out_le : out.length ≤ pos
  now_le : now.length ≤ 31
  fin_eq : fin (codes s pos) (out, now ++ [c]) = total s
  cellL : W.heap[w.heap.size]? = some (.cells #[vl] 22 (0, 0))
  cellD : W.heap[w.heap.size + 1]? = some (.cells #[vw] 26 (0, 0))
  iter : W.heap[w.heap.size + 1 + 1]? = some (.stringIter s pos)
  outs : Kd.R Kd.string 9 W w.heap.size (fun _ => True) vl out
  word : Kd.R (Kd.int .u8) 5 W w.heap.size (fun _ => True) vw now
  below : Below w.heap.size w W
/-- The word is full: it is put away, and a letter follows. -/
theorem Mid.full {s : ByteArray} {w W W' : World} {pos : Nat} {c : Int} {out : List ByteArray} {now : List Int} {vl vw : Value} {e : Ending} (h : Mid s w W pos c out now vl vw) (hc : ¬ c = 0) (h32 : now.length = 32) (hp : OverPost w.heap.size w.heap.size (w.heap.size + 1) out now W e W') :
    ∃ vl' vw', App s w W' pos c (flush (out, now)).1 [] vl' vw' := by
  obtain ⟨_, ⟨vl', vw', h1, h2, h3, h4⟩, h5, h6⟩ := hp
  refine ⟨vl', vw', h.pos_le, ?_, by simp, ?_, h1, h2, h6 _ _ h.iter (by omega) (by omega) (fun _ he => by cases he), h3, h4, h.below.trans h5⟩
  · have := h.out_le
    unfold flush; simp only []; split <;> simp <;> omega
  · have := h.fin_eq
    simpa [stp, hc, h32, flush] using this
theorem Mid.room {s : ByteArray} {w W : World} {pos : Nat} {c : Int} {out : List ByteArray} {now : List Int} {vl vw : Value} (h : Mid s w W pos c out now vl vw) (hc : ¬ c = 0) (h32 : ¬ now.length = 32) : App s w W pos c out now vl vw := by
  refine ⟨h.pos_le, Nat.le_of_lt h.out_le, by have := h.now_le; omega, ?_, h.cellL, h.cellD, h.iter, h.outs, h.word, h.below⟩
  have := h.fin_eq
  simpa [stp, hc, h32] using this
theorem App.kept {s : ByteArray} {w W W1 : World} {pos : Nat} {c : Int} {out : List ByteArray} {now : List Int} {vl vw : Value} (h : App s w W pos c out now vl vw) (hg : W.grownBy W1 vw.ownBlock) (k : Nat) (o : Obj) (h1 : W.heap[k]? = some o) (h2 : ∀ cells, o ≠ .cells cells 5 (0, 0)) : W1.heap[k]? = some o := by
  refine blk_grown h1 hg ?_
  intro e
  obtain ⟨_, inner, hown, _⟩ := h.word
  obtain ⟨cells, hc⟩ := own_typed hown k e.symm
  exact h2 cells (Option.some.inj (h1.symm.trans hc))
theorem App.cellD_after {s : ByteArray} {w W W1 : World} {pos : Nat} {c : Int} {out : List ByteArray} {now : List Int} {vl vw : Value} (h : App s w W pos c out now vl vw) (hg : W.grownBy W1 vw.ownBlock) : W1.heap[w.heap.size + 1]? = some (.cells #[vw] 26 (0, 0)) :=
  h.kept hg _ _ h.cellD (fun _ he => by cases he)
theorem App.iter_after {s : ByteArray} {w W W1 : World} {pos : Nat} {c : Int} {out : List ByteArray} {now : List Int} {vl vw : Value} (h : App s w W pos c out now vl vw) (hg : W.grownBy W1 vw.ownBlock) (v1 : Value) : (W1.setCell ⟨w.heap.size + 1, 0, none⟩ v1).heap[w.heap.size + 1 + 1]? = some (.stringIter s pos) := by
  rw [set_heap_ne _ _ _ _ (by omega)]
  exact h.kept hg _ _ h.iter (fun _ he => by cases he)
/-- Behind the append and the store. -/
theorem App.done {s : ByteArray} {w W W1 : World} {pos : Nat} {c : Int} {out : List ByteArray} {now : List Int} {vl vw v1 : Value} (h : App s w W pos c out now vl vw)
    (ho : Kd.R (Kd.int .u8) 5 W1 w.heap.size (fun _ => True) v1 (now ++ [c])) (hb : Below w.heap.size w W1) (hg : W.grownBy W1 vw.ownBlock) : Inv s w (W1.setCell ⟨w.heap.size + 1, 0, none⟩ v1) := by
  have hk := h.kept hg
  have hL1 := hk _ _ h.cellL (fun _ he => by cases he)
  have hD1 := hk _ _ h.cellD (fun _ he => by cases he)
  have hI1 := hk _ _ h.iter (fun _ he => by cases he)
  refine ⟨pos, out, now ++ [c], vl, v1, h.pos_le, h.out_le, by have := h.now_le; simp; omega, h.fin_eq, ?_, blk_set hD1 0 _, ?_, ?_, Kd.R_set ho hD1 (by decide) _ _, hb.setCell (by simp) _⟩
  · rw [set_heap_ne _ _ _ _ (by omega)]; exact hL1
  · rw [set_heap_ne _ _ _ _ (by omega)]; exact hI1
  · exact Kd.R_set (Kd.R_over' h.outs (Kd.R_typed h.word) (by decide) hg) hD1 (by decide) _ _
theorem app_size {s : ByteArray} {w W W1 : World} (h : Inv s w W1) (pos : Nat) (hp : W1.heap[w.heap.size + 1 + 1]? = some (.stringIter s pos)) : W1.iterPos (w.heap.size + 1 + 1) = pos := iter_pos hp
set_option maxHeartbeats 1000000 in
theorem split_any (s : ByteArray) (w : World) (hs : (s.size + 2) * 16 ≤ 140737488355328) :
    Calls Try.prog 4 #[.string s] w fun e w' => ∃ v, e = .returned v ∧ Kd.R Kd.string 9 w' w.heap.size (fun _ => True) v (total s) ∧ Below w.heap.size w w' := by
  go_enter Try.func4, Try.ntmps4
  go_wp2_with fail
  go_loopw [7, 8] (fun _ _ W => Inv s w W) (fun _ _ W => s.size - W.iterPos (w.heap.size + 1 + 1))
  case atStart => exact start_inv s w
  case round =>
    obtain ⟨pos, out, now, vl, vw, hat⟩ := hrel
    have HIP := Aside0.mk (iter_pos hat.iter)
    by_cases hlt : pos < s.size
    · have hm := hat.next hlt
      have hnx := fun ty => Lib.run_next_any_at (P := Try.prog) wr (w.heap.size + 1 + 1) s pos ty hat.iter hlt
      have hr := rune_range s pos
      have HW := Aside0.mk hlt
      clear hat
      generalize hW2 : wr.iterAt (w.heap.size + 1 + 1) s (pos + (Utf8.decode s pos).2) = W2 at hm hnx
      generalize hp2 : pos + (Utf8.decode s pos).2 = pos2 at hm
      have HP := Aside0.mk (show pos < pos2 from by have := (rune_step s pos hlt ([], [])).2.1; omega)
      have HN := Aside0.mk (Nat.le_trans hm.pos_le (Nat.le_refl _))
      clear hp2 hW2 hlt
      generalize hr2 : (((Utf8.decode s pos).1 : Nat) : Int) = r at hm hnx hr
      clear hr2
      generalize hc2 : sm r = c at hm
      have HC := Lib.hid hc2
      clear hc2
      have hcL := blk_cell hm.cellL 0
      have hcD := blk_cell hm.cellD 0
      have hfD := blk_frozen hm.cellD 0
      simp only [List.getElem?_toArray, List.getElem?_cons_zero] at hcD hcL
      obtain ⟨A, cp, rfl⟩ := Kd.R_slice hm.word
      have h32 := hm.now_le
      by_cases hc0 : c = 0
      · subst hc0
        have HM := Aside0.mk hm
        clear hm
        go_wp2_with (first | (go_at_call 8; refine (letter_c _ _ _ hr.1 hr.2 HC).mono ?_; rintro e w' ⟨rfl, rfl⟩) | (go_at_call 7; refine (over_any _ w.heap.size w.heap.size (w.heap.size + 1) _ _ out now h32 (by have := HM.out.out_le; have := HM.out.pos_le; omega) HM.out.cellL HM.out.cellD (Nat.le_refl _) (by omega) HM.out.outs HM.out.word).mono ?_; intro e w3 hp3; obtain rfl := hp3.end_; obtain ⟨vl3, vw3, hat3⟩ := HM.out.flushed hp3; have HA3 := Aside0.mk hat3; clear hat3 hp3))
        exact ⟨⟨_, _, _, _, _, HA3.out⟩, by rw [iter_pos HA3.out.iter, HIP.out]; have := HP.out; have := HW.out; have := HN.out; omega⟩
      · have hc1 : (c == 0) = false := beq_eq_false_iff_ne.mpr hc0
        have hc2 : (c != 0) = true := bne_iff_ne.mpr hc0
        by_cases hl : now.length = 32
        · have HM := Aside0.mk hm
          have HL := Aside0.mk hl
          have HC0 := Aside0.mk hc0
          have hl1 : ((now.length : Int) == 32) = true := by rw [beq_iff_eq]; omega
          clear hm hl hc0 h32
          go_wp2_with (first | (go_at_call 8; refine (letter_c _ _ _ hr.1 hr.2 HC).mono ?_; rintro e w' ⟨rfl, rfl⟩) | (go_at_call 7; refine (over_any _ w.heap.size w.heap.size (w.heap.size + 1) _ _ out now HM.out.now_le (by have := HM.out.out_le; have := HM.out.pos_le; omega) HM.out.cellL HM.out.cellD (Nat.le_refl _) (by omega) HM.out.outs HM.out.word).mono ?_; intro e w3 hp3; obtain rfl := hp3.end_; obtain ⟨vl3, vw3, hat3⟩ := HM.out.full HC0.out HL.out hp3; obtain ⟨A3, cp3, e3⟩ := Kd.R_slice hat3.word; subst e3; have hcD3 := blk_cell hat3.cellD 0; have hfD3 := blk_frozen hat3.cellD 0; simp only [List.getElem?_toArray, List.getElem?_cons_zero] at hcD3; have HA3 := Aside0.mk hat3; clear hat3 hp3) | (at_builtin; refine Kd.R_append (Kd.int .u8) (w0 := w) w.heap.size rfl (.tmp 28) (.tmp 30) 26 5 (.int .u8 0) 1 rfl Try.underlying26 info5 rfl (by decide) (by omega) _ [] c [.int .u8 c] (fun _ => True) (fun _ => False) rfl rfl ?aP (fun _ hk => hk.elim) (fun _ _ => trivial) HA3.out.word HA3.out.below ?aS (by simp) ?_; (case aP => exact rfl); (case aS => exact HA3.out.below.size); intro v4 w4 ho4 hb4 hg4 hat4; have hD4 := HA3.out.cellD_after hg4; have hcD4 := blk_cell hD4 0; have hfD4 := blk_frozen hD4 0; simp only [List.getElem?_toArray, List.getElem?_cons_zero] at hcD4; have HI := Aside0.mk (HA3.out.done ho4 hb4 hg4); have HIt := Aside0.mk (HA3.out.iter_after hg4 v4); obtain ⟨A4, cp4, e4⟩ := Kd.R_slice ho4; subst e4; clear ho4 hb4 hg4 hat4 hD4))
          have hI := HI.out
          have hIt := HIt.out
          simp only [List.nil_append, List.length_append, List.length_cons, List.length_nil, Nat.zero_add] at hI hIt
          exact ⟨hI, by rw [iter_pos hIt, HIP.out]; have := HP.out; have := HW.out; have := HN.out; omega⟩
        · have HM := Aside0.mk (hm.room hc0 hl)
          have hl1 : ((now.length : Int) == 32) = false := by rw [beq_eq_false_iff_ne]; omega
          clear hm hl hc0 h32
          go_wp2_with (first | (go_at_call 8; refine (letter_c _ _ _ hr.1 hr.2 HC).mono ?_; rintro e w' ⟨rfl, rfl⟩) | (at_builtin; refine Kd.R_append (Kd.int .u8) (w0 := w) w.heap.size rfl (.tmp 28) (.tmp 30) 26 5 (.int .u8 0) 1 rfl Try.underlying26 info5 rfl (by decide) (by omega) _ now c [.int .u8 c] (fun _ => True) (fun _ => False) rfl rfl ?aP (fun _ hk => hk.elim) (fun _ _ => trivial) HM.out.word HM.out.below ?aS (by have := HM.out.now_le; omega) ?_; (case aP => exact rfl); (case aS => exact HM.out.below.size); intro v4 w4 ho4 hb4 hg4 hat4; have hD4 := HM.out.cellD_after hg4; have hcD4 := blk_cell hD4 0; have hfD4 := blk_frozen hD4 0; simp only [List.getElem?_toArray, List.getElem?_cons_zero] at hcD4; have HI := Aside0.mk (HM.out.done ho4 hb4 hg4); have HIt := Aside0.mk (HM.out.iter_after hg4 v4); obtain ⟨A4, cp4, e4⟩ := Kd.R_slice ho4; subst e4; clear ho4 hb4 hg4 hat4 hD4))
          have hI := HI.out
          have hIt := HIt.out
          simp only [List.nil_append, List.length_append, List.length_cons, List.length_nil, Nat.zero_add] at hI hIt
          exact ⟨hI, by rw [iter_pos hIt, HIP.out]; have := HP.out; have := HW.out; have := HN.out; omega⟩
    · have hnx := fun ty => Lib.run_next_end_at (P := Try.prog) wr (w.heap.size + 1 + 1) s pos ty hat.iter hlt
      have HM := Aside0.mk hat
      have hc : codes s pos = [] := codes_end s pos hlt
      have HF := Aside0.mk (show (flush (out, now)).1 = total s by rw [← hat.fin_eq, hc]; rfl)
      have hcL := blk_cell hat.cellL 0
      have hcD := blk_cell hat.cellD 0
      simp only [List.getElem?_toArray, List.getElem?_cons_zero] at hcD hcL
      clear hat hlt hc
      go_wp2_with (go_at_call 7; refine (over_any _ w.heap.size w.heap.size (w.heap.size + 1) _ _ out now HM.out.now_le (by have := HM.out.out_le; have := HM.out.pos_le; omega) HM.out.cellL HM.out.cellD (Nat.le_refl _) (by omega) HM.out.outs HM.out.word).mono ?_; intro e w3 hp3; obtain rfl := hp3.end_; obtain ⟨_, ⟨vl', vw', h1, h2, h3', h4⟩, h5, h6⟩ := hp3; have h3 : Kd.R Kd.string 9 w3 w.heap.size (fun _ => True) vl' (total s) := (by rw [← HF.out]; exact h3'); clear h3'; obtain ⟨A3, cp3, e3⟩ := Kd.R_slice h3; subst e3; have hcL3 := blk_cell h1 0; simp only [List.getElem?_toArray, List.getElem?_cons_zero] at hcL3; have HR := Aside0.mk h3; have HB := Aside0.mk (HM.out.below.trans h5); clear h1 h2 h3 h4 h5 h6)
      go_ret
      exact ⟨_, rfl, HR.out, HB.out⟩
end Go.Proofs.Ytbdfjiobegadjaa.Split
