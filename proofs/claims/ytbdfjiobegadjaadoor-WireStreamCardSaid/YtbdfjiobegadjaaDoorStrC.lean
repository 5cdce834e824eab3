/- The walk of the law's own 'bytesOf': what is sent. -/
import Derived.Test.YtbdfjiobegadjaaDoorStrL
namespace Go.Proofs.YtbdfjiobegadjaaDoor.Sm
open Go Go.RowKit Go.Proofs.YtbdfjiobegadjaaDoor.Wr Go.Proofs.YtbdfjiobegadjaaDoor.Tk Go.Proofs.YtbdfjiobegadjaaDoor.Rd Go.Proofs.YtbdfjiobegadjaaDoor.PWireMemory Go.Proofs.YtbdfjiobegadjaaDoorW.PrintWords Go.Proofs.YtbdfjiobegadjaaDoorW.PrintLast Go.Proofs.YtbdfjiobegadjaaDoorW.PrintMore
set_option linter.unusedVariables false
set_option linter.unusedSectionVars false
set_option linter.unusedSimpArgs false
theorem plainS_ok (s : ByteArray) : okW (plainS s) := by
  obtain ⟨h1, h2⟩ := plainS_size s
  refine ⟨h1, h2, fun c hc => ?_⟩
  obtain ⟨_, _, h3⟩ := plN_ok s
  have : c ∈ (plN s).map (fun n => UInt8.ofNat n.toNat) := hc
  obtain ⟨n, hn, rfl⟩ := List.mem_map.1 this
  have := h3 n hn
  rw [UInt8.toNat_ofNat']
  omega
theorem keptW_mem {pl : Bool} {ws : List ByteArray} {w : ByteArray} (h : w ∈ keptW pl ws) : w.size ≤ 65536 ∧ (pl = true → okW w) := by
  unfold keptW at h
  obtain ⟨x, _, rfl⟩ := List.mem_map.1 h
  unfold wordF
  cases pl with
  | true =>
    have := plainS_ok (headM x)
    exact ⟨by have := this.2.1; simp only [if_true]; omega, fun _ => by simpa using this⟩
  | false => exact ⟨by simpa using headM_size x, fun e => by cases e⟩
theorem okW_get : okW ⟨#[103, 101, 116]⟩ := ⟨by decide, by decide, by decide⟩
theorem okW_x : okW ⟨#[120]⟩ := ⟨by decide, by decide, by decide⟩
theorem tidyW_mem {pl : Bool} {ws : List ByteArray} {w : ByteArray} (h : w ∈ tidyW pl ws) : w.size ≤ 65536 ∧ (pl = true → okW w) := by
  have key : ∀ l : List ByteArray, (∀ w ∈ l, w.size ≤ 65536 ∧ (pl = true → okW w)) → ∀ w ∈ starF pl l, w.size ≤ 65536 ∧ (pl = true → okW w) := fun l hl w hw => by
    unfold starF at hw
    split at hw
    · rcases List.mem_or_eq_of_mem_set hw with hw | rfl
      · exact hl w hw
      · exact ⟨by decide, fun _ => okW_x⟩
    · exact hl w hw
  unfold tidyW at h
  refine key _ (fun x hx => ?_) w h
  split at hx
  · rw [List.mem_singleton.1 hx]; exact ⟨by decide, fun _ => okW_get⟩
  · exact keptW_mem hx
theorem tidyW_len (pl : Bool) (ws : List ByteArray) : 1 ≤ (tidyW pl ws).length ∧ (tidyW pl ws).length ≤ 16 := by
  have key : ∀ l : List ByteArray, (starF pl l).length = l.length := fun l => by
    unfold starF
    split
    · exact List.length_set
    · rfl
  unfold tidyW
  rw [key]
  split
  · exact ⟨by decide, by decide⟩
  · rename_i h
    have h1 : (keptW pl ws).length ≠ 0 := fun e => h (List.eq_nil_of_length_eq_zero e)
    have h2 : (keptW pl ws).length ≤ 16 := by unfold keptW; rw [List.length_map, List.length_take]; omega
    omega
theorem tidyW_ne (pl : Bool) (ws : List ByteArray) : tidyW pl ws ≠ [] := fun e => by have := (tidyW_len pl ws).1; rw [e] at this; simp at this
theorem tidy_cmdE (ws : List ByteArray) : cmdE (tidyW false ws) = none := by
  have h := tidyW_len false ws
  unfold cmdE
  rw [if_neg (by omega), if_neg (by omega), if_neg]
  simp only [List.any_eq_true, decide_eq_true_eq, not_exists, not_and]
  intro w hw
  have := (tidyW_mem hw).1
  omega
def accS (l : List ByteArray) : Nat → ByteArray
  | 0 => ⟨#[32]⟩
  | i + 1 => accS l i ++ l.getD i ⟨#[]⟩ ++ ⟨#[9, 32]⟩
theorem acc_list (l : List ByteArray) : ∀ i, i ≤ l.length → (accS l i).data.toList = 32 :: (l.take i).flatMap wordB
  | 0, _ => by simp [accS]
  | i + 1, h => by
    rw [accS, List.take_succ_eq_append_getElem h, List.flatMap_append]
    simp only [ByteArray.data_append, Array.toList_append, acc_list l i (by omega), List.flatMap_cons, List.flatMap_nil, List.append_nil, wordB, List.cons_append, List.append_assoc, List.getD_eq_getElem?_getD, List.getElem?_eq_getElem (show i < l.length by omega), Option.getD_some]
def bytesS (pl : Bool) (ws : List ByteArray) : ByteArray := if pl then accS (tidyW true ws) (tidyW true ws).length ++ ⟨#[13, 10, 32, 13, 10]⟩ else ⟨(cmdB (tidyW false ws)).toArray⟩
theorem bytes_outs (pl : Bool) (ws : List ByteArray) : outs .start (bytesS pl ws).data.toList = some ([tidyW pl ws], .start) := by
  have h := tidyW_len pl ws
  unfold bytesS
  cases pl with
  | true =>
    have e : (accS (tidyW true ws) (tidyW true ws).length ++ (⟨#[13, 10, 32, 13, 10]⟩ : ByteArray)).data.toList = lineL (tidyW true ws) := by
      simp only [ByteArray.data_append, Array.toList_append, acc_list _ _ (Nat.le_refl _), List.take_length, lineL, List.cons_append]
    rw [if_pos rfl, e]
    exact line_outs _ (tidyW_ne _ _) h.2 (fun w hw => (tidyW_mem hw).2 rfl)
  | false =>
    rw [if_neg (by decide)]
    exact cmd_outs _ (tidyW_ne _ _) h.2 (fun w hw => (tidyW_mem hw).1)
theorem acc_size (l : List ByteArray) (h : ∀ w ∈ l, okW w) (i : Nat) (hi : i ≤ l.length) : (accS l i).size ≤ 1 + 202 * l.length := by
  have h1 : (accS l i).size = (accS l i).data.toList.length := by simp
  have h2 := flat_len (l.take i) (fun w hw => (h w (List.mem_of_mem_take hw)).2.1)
  rw [h1, acc_list l i hi, List.length_cons]
  rw [List.length_take] at h2
  have : min i l.length ≤ l.length := Nat.min_le_right _ _
  omega
theorem bytes_size (pl : Bool) (ws : List ByteArray) : (bytesS pl ws).size ≤ 2000000 := by
  have h := tidyW_len pl ws
  unfold bytesS
  cases pl with
  | true =>
    have := acc_size (tidyW true ws) (fun w hw => (tidyW_mem hw).2 rfl) _ (Nat.le_refl _)
    rw [if_pos rfl, ByteArray.size_append]
    have h5 : (⟨#[13, 10, 32, 13, 10]⟩ : ByteArray).size = 5 := rfl
    omega
  | false =>
    rw [if_neg (by decide)]
    have hp := pre_len (tidyW false ws) (tidyW false ws).length (Nat.le_refl _) (fun j hj => by
      rw [List.getD_eq_getElem?_getD, List.getElem?_eq_getElem hj]
      exact (tidyW_mem (List.getElem_mem hj)).1)
    rw [List.take_length] at hp
    have hi := Lib.itoa_length_le ((tidyW false ws).length : Int) (by omega) (by omega)
    show (cmdB (tidyW false ws)).toArray.size ≤ _
    rw [List.size_toArray]
    unfold cmdB
    simp only [List.length_append, List.length_cons, List.length_nil]
    omega
set_option maxRecDepth 100000 in
set_option maxHeartbeats 4000000 in
theorem bytesOf_walk (ws : List ByteArray) (pl : Bool) (A : Option Addr) (c : Nat) (W : World) (ad : Nat → Addr) (hE : Errs W ad) (hT : Tab W.heap.size W) (hA : Kd.string.C W A ws.length ws) (hs : ∀ w ∈ ws, w.size ≤ 140737488355328) :
    Calls Tryd.prog 26 #[.agg #[.slice A ws.length c, .bool pl]] W fun e w' => e = .returned (.tuple #[.string (bytesS pl ws), .bool true]) ∧ Below W.heap.size W w' := by
  have HA := Aside0.mk hA
  have HE := Aside0.mk hE
  have HT := Aside0.mk hT
  clear hA hE hT
  go_enter Tryd.func26, Tryd.ntmps26
  go_wp2_with fail
  obtain ⟨Wm, hWm⟩ : ∃ Wm, Wm = W.alloc (.cells #[.slice A ws.length c, .bool pl] 67) := ⟨_, rfl⟩
  have HX := Aside0.mk (show Wm.heap[W.heap.size]? = some (.cells #[.slice A ws.length c, .bool pl] 67 (0, 0)) by rw [hWm]; exact (MapKept.heap_alloc W _).1)
  have HB0 := Aside0.mk (show Below W.heap.size W Wm by rw [hWm]; exact below_alloc (Below.refl _ _) _)
  have hz : Wm.heap.size = W.heap.size + 1 := by rw [hWm]; simp
  rw [← hWm]
  clear hWm
  refine (tidy_walk ws pl A c Wm (Kd.C_below HA.out HB0.out) hs).mono ?_
  rintro _ w2 ⟨v2, rfl, hr2, hb2⟩
  obtain ⟨A2, c2, rfl⟩ := Kd.R_slice hr2
  have HR2 := Aside0.mk hr2
  have HC2 := Aside0.mk (Kd.R_reads' hr2).2.2
  have HB2 := Aside0.mk (HB0.out.trans (hb2.mono HB0.out.size))
  have hX : w2.heap[W.heap.size]? = some (.cells #[.slice A ws.length c, .bool pl] 67 (0, 0)) := (hb2.block _ (by omega)).trans HX.out
  have x1 : w2.cell? ⟨W.heap.size, 1, none⟩ = some (.bool pl) := blk_cell hX 1
  have hl := (tidyW_len pl ws).2
  clear hX hr2 hb2
  cases pl with
  | false =>
    have hv := Lib.hid (show cmdV ad (tidyW false ws) = .tuple #[.string (bytesS false ws), .nilIface] by unfold cmdV; rw [tidy_cmdE]; rfl)
    generalize tidyW false ws = l at HR2 HC2 hl hv
    go_wp2_with fail
    refine (command_any w2 ad (errs_below HE.out HB2.out) (tab_up HT.out HB2.out) A2 l c2 HC2.out).mono ?_
    rintro _ w3 ⟨rfl, hb3⟩
    rw [hv.out]
    have HB3 := Aside0.mk (HB2.out.trans (hb3.mono HB2.out.size))
    clear hb3
    obtain ⟨t, ht⟩ : ∃ t, bytesS false ws = t := ⟨_, rfl⟩
    have hv := Lib.hid (ht ▸ hv.out)
    have ht := Lib.hid ht
    go_wp2_with fail
    go_quiet (fail)
    go_wp2_with fail
    go_ret2
    exact ⟨(by rw [ht.out]; rfl), (pw_below_drewN HB3.out _)⟩
  | true =>
    have hv := Lib.hid (show bytesS true ws = accS (tidyW true ws) (tidyW true ws).length ++ ⟨#[13, 10, 32, 13, 10]⟩ from rfl)
    have hsz := Lib.hid (acc_size (tidyW true ws) (fun w hw => (tidyW_mem hw).2 rfl))
    generalize tidyW true ws = l at HR2 HC2 hl hv hsz
    obtain ⟨t, ht⟩ : ∃ t, bytesS true ws = t := ⟨_, rfl⟩
    have hv := Lib.hid (ht ▸ hv.out)
    have ht := Lib.hid ht
    go_wp2_with fail
    go_loopw [7, 8] (fun v7 v8 W' => W' = w2 ∧ ∃ i : Nat, v8 = .int .i64 i ∧ v7 = .string (accS l i) ∧ i ≤ l.length) (fun _ v8 _ => l.length - (intOf v8).toNat)
    case atStart => exact ⟨rfl, 0, rfl, rfl, by omega⟩
    case round =>
      obtain ⟨hww, i, rfl, rfl, hi⟩ := hrel
      have hww := hww.symm
      subst hww
      by_cases hlt : i < l.length
      · have hlt' : (i : Int) < (l.length : Int) := by omega
        obtain ⟨a, rfl, ha⟩ := at_S HC2.out i hlt
        have hn := Lib.hid (show accS l (i + 1) = accS l i ++ l.getD i ⟨#[]⟩ ++ ⟨#[9, 32]⟩ from rfl)
        have h1 := hsz.out (i + 1) hlt
        rw [hn.out, ByteArray.size_append, ByteArray.size_append] at h1
        generalize l.getD i ⟨#[]⟩ = w at ha hn h1
        generalize accS l i = z at hn h1
        go_wp2_with fail
        go_roundw
        case rel => exact ⟨trivial, i + 1, by go_num, by rw [hn.out], by omega⟩
        case measure => simp [intOf]; omega
      · have hlt' : ¬ (i : Int) < (l.length : Int) := by omega
        obtain rfl : i = l.length := by omega
        have h1 := hsz.out l.length (Nat.le_refl _)
        generalize accS l l.length = z at hv h1
        have hv2 := Lib.hid hv.out.symm
        go_wp2_with fail
        go_ret2
        exact ⟨(by first | (rw [ht.out, ← hv2.out]; rfl) | (rw [← hv2.out]; rfl)), HB2.out⟩
end Go.Proofs.YtbdfjiobegadjaaDoor.Sm
