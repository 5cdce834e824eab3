/- The walk of the law's own 'tidy': words that may be sent. -/
import Derived.Test.YtbdfjiobegadjaaDoorStrA

namespace Go.Proofs.YtbdfjiobegadjaaDoor.Wr
open Go Go.RowKit Go.Proofs.YtbdfjiobegadjaaDoor.Rf Go.Proofs.YtbdfjiobegadjaaDoor.Rd Go.Proofs.YtbdfjiobegadjaaDoor.Tk Go.Proofs.YtbdfjiobegadjaaDoor.PWireMemory Go.Proofs.YtbdfjiobegadjaaDoorW.PrintWords Go.Proofs.YtbdfjiobegadjaaDoorW.PrintLast Go.Proofs.YtbdfjiobegadjaaDoorW.PrintMore
set_option linter.unusedVariables false
set_option linter.unusedSectionVars false
set_option linter.unusedSimpArgs false
def wordF (pl : Bool) (w : ByteArray) : ByteArray := if pl then plainS (headM w) else headM w
/-- The words that are kept. -/
def keptW (pl : Bool) (ws : List ByteArray) : List ByteArray := (ws.take 16).map (wordF pl)
def starF (pl : Bool) (l : List ByteArray) : List ByteArray := if pl && (bt (l.getD 0 ⟨#[]⟩) 0 == 42) then l.set 0 ⟨#[120]⟩ else l
def tidyW (pl : Bool) (ws : List ByteArray) : List ByteArray := starF pl (if keptW pl ws = [] then [⟨#[103, 101, 116]⟩] else keptW pl ws)
theorem take_word (pl : Bool) (ws : List ByteArray) (i : Nat) (h : i < ws.length) : (ws.take (i + 1)).map (wordF pl) = (ws.take i).map (wordF pl) ++ [wordF pl (ws.getD i ⟨#[]⟩)] := by
  rw [List.take_succ_eq_append_getElem h, List.map_append, List.getD_eq_getElem?_getD, List.getElem?_eq_getElem h]
  rfl
theorem str_lit (W : World) (base : Nat) (l : List ByteArray) (hb : base ≤ W.heap.size) (hm : l.length ≤ 9223372036854775807) : Kd.string.R 9 (W.alloc (.cells (encs Value.string l).toArray 9)) base (fun _ => True) (.slice (some ⟨W.heap.size, 0, none⟩) l.length l.length) l :=
  Kd.R_of_own (own_lit_of (enc := Value.string) W base 9 l hb hm) (fun _ _ => trivial)
theorem str_own {w : World} {base n c : Nat} {A : Option Addr} {l : List ByteArray} (h : Kd.string.R 9 w base (fun _ => True) (.slice A n c) l) (hn : 0 < l.length) : ∃ g, A = some ⟨g, 0, none⟩ := by
  rcases (Kd.own_of_R (enc := Value.string) h).2 with ⟨_, h2⟩ | ⟨g, cap, cur, e, _⟩
  · omega
  · cases e
    exact ⟨g, rfl⟩
theorem keptW_at (pl : Bool) (ws : List ByteArray) (i : Nat) (hi : i ≤ ws.length) (hi16 : i ≤ 16) (h : ¬ (i < ws.length ∧ i < 16)) : (ws.take i).map (wordF pl) = keptW pl ws := by
  unfold keptW
  rcases Nat.lt_or_ge i 16 with h1 | h1
  · obtain rfl : i = ws.length := by omega
    rw [List.take_length, List.take_of_length_le (by omega)]
  · obtain rfl : i = 16 := by omega
    rfl
theorem plainS_size (s : ByteArray) : 1 ≤ (plainS s).size ∧ (plainS s).size ≤ 200 := by
  obtain ⟨h1, h2, _⟩ := plN_ok s
  have : (plainS s).size = (plN s).length := by
    show ((plN s).map _).toArray.size = _
    rw [List.size_toArray, List.length_map]
  have h3 : (plN s).length ≠ 0 := fun h => h1 (List.eq_nil_of_length_eq_zero h)
  omega
/-- A plain line's words are none of them empty. -/
theorem keptW_full {ws : List ByteArray} {w : ByteArray} (h : w ∈ keptW true ws) : 1 ≤ w.size := by
  unfold keptW at h
  obtain ⟨x, _, rfl⟩ := List.mem_map.1 h
  exact (plainS_size _).1
theorem tidyW_no (pl : Bool) (ws : List ByteArray) (h : (keptW pl ws).length = 0) : tidyW pl ws = [⟨#[103, 101, 116]⟩] := by
  unfold tidyW
  rw [if_pos (List.eq_nil_of_length_eq_zero h)]
  cases pl <;> rfl
theorem tidyW_at (pl : Bool) (ws : List ByteArray) (h : ¬ (keptW pl ws).length = 0) : tidyW pl ws = starF pl (keptW pl ws) := by
  unfold tidyW
  rw [if_neg (fun e => h (by rw [e]; rfl))]
set_option maxRecDepth 100000 in
set_option maxHeartbeats 8000000 in
theorem tidy_walk (ws : List ByteArray) (pl : Bool) (A : Option Addr) (c : Nat) (W : World) (hA : Kd.string.C W A ws.length ws) (hs : ∀ w ∈ ws, w.size ≤ 140737488355328) :
    Calls Tryd.prog 28 #[.agg #[.slice A ws.length c, .bool pl]] W fun e w' => ∃ v, e = .returned v ∧ Kd.string.R 9 w' W.heap.size (fun _ => True) v (tidyW pl ws) ∧ Below W.heap.size W w' := by
  have HA := Aside0.mk hA
  have hm := Kd.C_max hA
  clear hA
  go_enter Tryd.func28, Tryd.ntmps28
  go_wp2_with fail
  obtain ⟨Wm, hWm⟩ : ∃ Wm, Wm = W.alloc (.cells #[.slice A ws.length c, .bool pl] 67) := ⟨_, rfl⟩
  have HX := Aside0.mk (show Wm.heap[W.heap.size]? = some (.cells #[.slice A ws.length c, .bool pl] 67 (0, 0)) by rw [hWm]; exact (MapKept.heap_alloc W _).1)
  have HB0 := Aside0.mk (show Below W.heap.size W Wm by rw [hWm]; exact below_alloc (Below.refl _ _) _)
  have hz : Wm.heap.size = W.heap.size + 1 := by rw [hWm]; simp
  rw [← hWm]
  clear hWm
  go_loopw [3, 4, 5] (fun v3 v4 v5 W' => ∃ i : Nat, v4 = .int .i64 i ∧ i ≤ ws.length ∧ i ≤ 16 ∧ Aside0 (Kd.string.R 9 W' Wm.heap.size (fun _ => True) v3 ((ws.take i).map (wordF pl))) ∧ Aside0 (Below Wm.heap.size Wm W')) (fun _ v4 _ _ => ws.length - (intOf v4).toNat)
  case atStart => exact ⟨0, rfl, by omega, by omega, ⟨Kd.R_nil _ _ _ _ _⟩, ⟨Below.refl _ _⟩⟩
  case round =>
    obtain ⟨i, rfl, hi, hi16, HR, HB⟩ := hrel
    have hlen := Lib.hid (show ((ws.take i).map (wordF pl)).length = i by rw [List.length_map, List.length_take]; omega)
    have hX : wr.heap[W.heap.size]? = some (.cells #[.slice A ws.length c, .bool pl] 67 (0, 0)) := (HB.out.block _ (by omega)).trans HX.out
    have x0 : wr.cell? ⟨W.heap.size, 0, none⟩ = some (.slice A ws.length c) := blk_cell hX 0
    have x1 : wr.cell? ⟨W.heap.size, 1, none⟩ = some (.bool pl) := blk_cell hX 1
    clear hX
    by_cases hgo : i < ws.length ∧ i < 16
    · obtain ⟨hlt, h16⟩ := hgo
      have hlt' : (i : Int) < (ws.length : Int) := by omega
      have h16' : (i : Int) < 16 := by omega
      have htk := Lib.hid (take_word pl ws i hlt)
      have hsz := hs (ws.getD i ⟨#[]⟩) (by rw [List.getD_eq_getElem?_getD, List.getElem?_eq_getElem hlt]; exact List.getElem_mem hlt)
      obtain ⟨a, rfl, ha⟩ := at_S (Kd.C_below HA.out (HB0.out.trans (HB.out.mono (by omega)))) i hlt
      generalize ws.getD i ⟨#[]⟩ = w at ha htk hsz
      generalize hl : (ws.take i).map (wordF pl) = l at HR htk hlen
      obtain ⟨A1, c1, rfl⟩ := Kd.R_slice HR.out
      clear hl
      cases pl with
      | true =>
        go_wp2_with fail
        refine (headM_walk w wr).mono ?_
        rintro e w2 ⟨rfl, rfl⟩
        go_wp2_with fail
        refine (plain_walk (headM w) (by have := headM_size w; omega) w2).mono ?_
        rintro e w3 ⟨rfl, hb3⟩
        have HR3 := Aside0.mk (Kd.R_below HR.out hb3)
        have HB3 := Aside0.mk (HB.out.trans (hb3.mono HB.out.size))
        clear hb3
        have htk2 := Lib.hid (show (ws.take (i + 1)).map (wordF true) = l ++ [plainS (headM w)] from htk.out)
        go_wp2_with ((with_reducible refine gate_builtin (b := .append) (xs := #[.tmp 27, .tmp 29]) rfl ?_); at_builtin; refine Kd.R_append Kd.string (w0 := Wm) Wm.heap.size rfl (.tmp 27) (.tmp 29) 45 9 (.string ⟨#[]⟩) 16 rfl Tryd.underlying45 infoStr rfl (by decide) (by omega) (.slice A1 l.length c1) l (plainS (headM w)) [.string (plainS (headM w))] (fun _ => True) (fun _ => False) rfl rfl rfl (fun _ hk => hk.elim) (fun _ _ => trivial) HR3.out HB3.out HB3.out.size (by have := hlen.out; omega) ?_; intro v5 w5 ho5 hb5 hg5 hat5; have HO5 := Aside0.mk ho5; have HB5 := Aside0.mk hb5; clear ho5 hb5 hg5 hat5)
        go_roundw
        case rel => exact ⟨i + 1, by go_num, by omega, by omega, by rw [htk2.out]; exact HO5, HB5⟩
        case measure => simp [intOf]; omega
      | false =>
        go_wp2_with fail
        refine (headM_walk w wr).mono ?_
        rintro e w2 ⟨rfl, rfl⟩
        have htk2 := Lib.hid (show (ws.take (i + 1)).map (wordF false) = l ++ [headM w] from htk.out)
        go_wp2_with ((with_reducible refine gate_builtin (b := .append) (xs := #[.tmp 27, .tmp 29]) rfl ?_); at_builtin; refine Kd.R_append Kd.string (w0 := Wm) Wm.heap.size rfl (.tmp 27) (.tmp 29) 45 9 (.string ⟨#[]⟩) 16 rfl Tryd.underlying45 infoStr rfl (by decide) (by omega) (.slice A1 l.length c1) l (headM w) [.string (headM w)] (fun _ => True) (fun _ => False) rfl rfl rfl (fun _ hk => hk.elim) (fun _ _ => trivial) HR.out HB.out HB.out.size (by have := hlen.out; omega) ?_; intro v5 w5 ho5 hb5 hg5 hat5; have HO5 := Aside0.mk ho5; have HB5 := Aside0.mk hb5; clear ho5 hb5 hg5 hat5)
        go_roundw
        case rel => exact ⟨i + 1, by go_num, by omega, by omega, by rw [htk2.out]; exact HO5, HB5⟩
        case measure => simp [intOf]; omega
    · have hk := keptW_at pl ws i hi hi16 hgo
      have hc : (¬ (i : Int) < (ws.length : Int)) ∨ ((i : Int) < (ws.length : Int) ∧ ¬ (i : Int) < 16) := by omega
      rw [hk] at HR hlen
      have hno := Lib.hid (tidyW_no pl ws)
      have hat := Lib.hid (tidyW_at pl ws)
      have hfull := Lib.hid (fun (e : pl = true) w (h : w ∈ keptW pl ws) => keptW_full (ws := ws) (w := w) (by subst e; exact h))
      generalize keptW pl ws = l at HR hno hat hfull hlen
      obtain ⟨A1, c1, rfl⟩ := Kd.R_slice HR.out
      clear hk hgo
      have hle : l.length ≤ 16 := by have := hlen.out; omega
      have hwz := HB.out.size
      have hwr : W.heap.size < wr.heap.size := by omega
      rcases hc with h | ⟨h, h'⟩
      all_goals
        by_cases hz0 : l.length = 0
        · have hne : ((l.length : Int) == 0) = true := by rw [hz0]; rfl
          have ht := Lib.hid (hno.out hz0)
          clear hz0
          cases pl with
          | true =>
            go_wp2_with fail
            go_ret
            exact ⟨_, rfl, by rw [ht.out]; exact str_lit wr W.heap.size [⟨#[103, 101, 116]⟩] (by omega) (by decide), HB0.out.trans ((HB.out.mono (by omega)).alloc (by omega) _)⟩
          | false =>
            go_wp2_with fail
            go_ret
            exact ⟨_, rfl, by rw [ht.out]; exact str_lit wr W.heap.size [⟨#[103, 101, 116]⟩] (by omega) (by decide), HB0.out.trans ((HB.out.mono (by omega)).alloc (by omega) _)⟩
        · have hne : ((l.length : Int) == 0) = false := by rw [beq_eq_false_iff_ne]; omega
          have ht := Lib.hid (hat.out hz0)
          obtain ⟨g, rfl⟩ := str_own HR.out (by omega)
          cases pl with
          | true =>
            obtain ⟨r0, f0⟩ := Kd.R_cell (enc := Value.string) (⟨#[]⟩ : ByteArray) HR.out 0 (by omega) (by omega)
            have hf := hfull.out rfl (rdOf (⟨#[]⟩ : ByteArray) l 0) (by unfold rdOf; rw [List.getD_eq_getElem?_getD, List.getElem?_eq_getElem (by simp; omega)]; exact List.getElem_mem _)
            have hst := Lib.hid (show starF true l = if bt (rdOf (⟨#[]⟩ : ByteArray) l 0) 0 == 42 then l.set 0 ⟨#[120]⟩ else l from rfl)
            generalize rdOf (⟨#[]⟩ : ByteArray) l 0 = w0 at r0 hf hst
            have hbt := Lib.hid (bt_nat w0 0 (by omega))
            have r0 : wr.cell? ⟨g, 0, none⟩ = some (.string w0) := r0
            have f0 : wr.frozen? ⟨g, 0, none⟩ = false := f0
            have hl0 : (0 : Int) < (l.length : Int) := by omega
            have hlz : ¬ l.length = 0 := hz0
            by_cases h42 : ((w0[0]).toNat : Int) = 42
            · have h42b : (((w0[0]).toNat : Int) == 42) = true := by rw [h42]; rfl
              have hst2 := Lib.hid (show starF true l = l.set 0 ⟨#[120]⟩ by rw [hst.out, if_pos (by rw [show bt w0 0 = _ from hbt.out]; exact h42b)])
              clear h42 hst
              go_wp2_with fail
              go_ret
              have hput := Kd.R_put (enc := Value.string) HR.out 0 (⟨#[120]⟩ : ByteArray)
              refine ⟨_, rfl, ?_, ?_⟩
              · rw [ht.out, hst2.out]
                have := Kd.R_lower hput.1 (show W.heap.size ≤ Wm.heap.size by omega)
                rw [show (some (⟨g, 0, none⟩ : Addr)) = some ⟨g, 0, none⟩ from rfl] at this
                exact this
              · refine HB0.out.trans (((HB.out.grown hput.2 hwz ?_).mono (by omega)))
                intro k hk
                obtain rfl : g = k := by simpa using hk
                exact own_base (Kd.own_of_R (enc := Value.string) HR.out) g rfl
            · have h42b : (((w0[0]).toNat : Int) == 42) = false := by rw [beq_eq_false_iff_ne]; exact h42
              have hst2 := Lib.hid (show starF true l = l by rw [hst.out, if_neg (by rw [show bt w0 0 = _ from hbt.out]; simpa using h42)])
              clear h42 hst
              go_wp2_with fail
              go_ret
              exact ⟨_, rfl, by rw [ht.out, hst2.out]; exact Kd.R_lower HR.out (by omega), HB0.out.trans (HB.out.mono (by omega))⟩
          | false =>
            go_wp2_with fail
            go_ret
            exact ⟨_, rfl, by rw [ht.out]; exact Kd.R_lower HR.out (by omega), HB0.out.trans (HB.out.mono (by omega))⟩
end Go.Proofs.YtbdfjiobegadjaaDoor.Wr
