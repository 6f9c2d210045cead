/-
  Multi: a charset takes a row.
-/
import Derived.Test.YtplobpelhcagpaaDoorMsG
import Derived.Lib.TrimU
namespace Go.Proofs.YtplobpelhcagpaaDoor
open Go.RowKit Go.Shelf Pl14

def runesN (s : ByteArray) : Nat → Nat → List Int
  | 0, _ => []
  | f + 1, i => if i < s.size then ((Utf8.decode s i).1 : Int) :: runesN s f (i + (Utf8.decode s i).2) else []
/-- a text's characters -/
def runesL (s : ByteArray) : List Int := runesN s s.size 0
theorem runesN_len (s : ByteArray) : ∀ f i, (runesN s f i).length = Lib.runeCountFrom s f i
  | 0, _ => rfl
  | f + 1, i => by unfold runesN Lib.runeCountFrom; split <;> simp [runesN_len s f]; omega
theorem runesL_len (s : ByteArray) : (runesL s).length = Lib.runeCount s := runesN_len s _ _
theorem runesN_from (s : ByteArray) : ∀ f i (acc : Array Value), Conv.runesFrom s f i acc = acc ++ ((runesN s f i).map (Value.int .i32)).toArray
  | 0, _, acc => by simp [Conv.runesFrom, runesN]
  | f + 1, i, acc => by
    unfold Conv.runesFrom runesN
    split
    · show Conv.runesFrom s f (i + (Utf8.decode s i).2) (acc.push (.int .i32 (Int.ofNat (Utf8.decode s i).1))) = _
      rw [runesN_from s f]; simp
    · simp
theorem runesL_from (s : ByteArray) : Conv.runesFrom s s.size 0 #[] = ((runesL s).map (Value.int .i32)).toArray := by rw [runesN_from]; simp [runesL]
theorem runesN_rng (s : ByteArray) : ∀ f i, ∀ x ∈ runesN s f i, 0 ≤ x ∧ x ≤ 1114111
  | 0, _, x, h => by simp [runesN] at h
  | f + 1, i, x, h => by
    unfold runesN at h
    split at h
    · rcases List.mem_cons.1 h with rfl | h
      · have := Lib.rune_le s i; omega
      · exact runesN_rng s f _ x h
    · simp at h

theorem conv_runes (t : ByteArray) (w : World) (ht : t.size ≤ 1000000) :
    ∃ v w', (convert 9 75 (.string t)).run Tryd.prog w = .ok v w' ∧ Rd .i32 w' v (runesL t) ∧ Below w.heap.size w w' := by
  have hlen : (runesL t).length ≤ 1000000 := by rw [runesL_len]; have := Lib.runeCount_le t; omega
  have h := run_runes_of_string (P := Tryd.prog) w 9 75 21 t Tryd.underlying9 Tryd.underlying75 Tryd.underlying21 (by rw [runesL_from]; simp; omega)
  have hge := grownCap_ge w (Conv.runesFrom t t.size 0 #[]).size 0 21
  obtain ⟨cap, hcap⟩ : ∃ q, grownCap w (Conv.runesFrom t t.size 0 #[]).size 0 21 = q := ⟨_, rfl⟩
  rw [hcap] at h hge
  rw [runesL_from] at h hge
  simp only [List.size_toArray, List.length_map] at h hge
  refine ⟨_, _, h, ?_, ?_⟩
  · refine ⟨some ⟨w.heap.size, 0, none⟩, cap, rfl, by omega, ?_, (fun h => by cases h), .inr ⟨w.heap.size, 0, rfl, fun j hj => ?_⟩⟩
    · rw [← hcap]
      have := grownCap_le_maxLen w (Conv.runesFrom t t.size 0 #[]).size 0 21 (by rw [runesL_from]; simp; unfold maxLen; omega)
      unfold maxLen at this; omega
    · refine ((Blk.new w.drew _ _).cell (0 + j)).trans ?_
      simp [hj, List.getD_eq_getElem?_getD]
      rw [Array.getElem?_append_left (by simpa using hj)]
      simp [hj]
  · exact ((Below.refl _ _).drewN 1).alloc (by simp) _

theorem nfdL_len_ge (xs : List Int) : xs.length ≤ (nfdL xs).length := by
  unfold nfdL
  rw [msort_length]
  induction xs with
  | nil => simp
  | cons x xs ih =>
    have : 1 ≤ (oneL x).length := by unfold oneL; (repeat' split) <;> simp
    show _ ≤ (oneL x ++ xs.flatMap oneL).length
    rw [List.length_append, List.length_cons]; omega

theorem nilAhead_nfd (w : World) : (nilAhead 275 85 (.agg #[]) "NFD").run Tryd.prog w = .ok (some false) w := by kernel_rfl
theorem method_nfd (w : World) : (method 275 85 (.agg #[]) "NFD").run Tryd.prog w = .ok (95, .agg #[]) w := by kernel_rfl

/-- may a row be taken behind others? -/
def RowOk (ps : List CT) (c t : ByteArray) (fl : Int) : Prop := checkE c t fl = 0 ∧ (nfdL (runesL t)).length ≤ 18 ∧ (fl = 1 ∨ DecOk ps c.data.toList)
def rowPs (ps : List CT) (c t : ByteArray) (fl : Int) : List CT := if fl = 1 then ps else ps ++ [(c, t)]

set_option maxRecDepth 100000 in
set_option maxHeartbeats 8000000 in
theorem row_any (cb tm hm B : Nat) (c0 c2 c5 c6 : Value) (ps : List CT) (c t : ByteArray) (fl : Int) (w : World) (hI : CsI cb tm hm c0 (.iface 85 (.agg #[])) c2 c5 c6 ps (headB ps) B w) (hT : TabsAt w) (hB : B ≤ 1000000000) (ht : t.size ≤ 300000) :
    Calls Tryd.prog 28 #[.pointer (some ⟨cb, 0, none⟩), rowV c t fl] w fun e w' => ∃ v er, e = .returned (.tuple #[v, .int .i64 er]) ∧
      ((er = 0 ∧ RowOk ps c t fl ∧ Own 21 .i32 w.heap.size w' v (nfdL (runesL t)) ∧ CsI cb tm hm c0 (.iface 85 (.agg #[])) c2 c5 c6 (rowPs ps c t fl) (headB (rowPs ps c t fl)) (B + 2000) w') ∨ (er ≠ 0 ∧ ¬ RowOk ps c t fl)) ∧ Keep (fun j => j = tm ∨ j = hm) w w' := by
  have hna := nilAhead_nfd
  have hme := method_nfd
  have HI := Lib.hid hI; clear hI
  have HT := Lib.hid hT; clear hT
  obtain ⟨rb, hrb⟩ : ∃ q, w.heap.size = q := ⟨_, rfl⟩
  unfold rowV
  go_enter Tryd.func28, Tryd.ntmps28
  go_wp2_with fail
  obtain ⟨W1, hW1⟩ : ∃ W, w.alloc (.cells #[.string c, .string t, .int .i64 fl] 47) = W := ⟨_, rfl⟩
  have hx1 : Blk W1 rb #[.string c, .string t, .int .i64 fl] 47 := by rw [← hW1, ← hrb]; exact Blk.new _ _ _
  have hb1 : Below w.heap.size w W1 := by rw [← hW1]; exact (Below.refl _ _).alloc (Nat.le_refl _) _
  have HI1 := Lib.hid (HI.out.below hb1)
  have HT1 := Lib.hid (HT.out.below hb1 rfl)
  have hl := HI.out.lt
  rw [hrb] at hl
  rw [hW1]
  have HX := Lib.hid hx1; clear hx1
  have HB1 := Lib.hid hb1; clear hb1
  clear hW1 HI HT
  refine (check_any c t fl W1 HT1.out (by omega)).mono ?_
  rintro e W2 ⟨rfl, hb2⟩
  have HI2 := Lib.hid (HI1.out.below hb2)
  have HX2 := Lib.hid (HX.out.below hb2 HX.out.lt)
  have HB2 := Lib.hid (HB1.out.trans (hb2.mono HB1.out.size))
  clear hb2 HX HI1 HB1 HT1
  obtain ⟨ce, hce⟩ : ∃ x, checkE c t fl = x := ⟨_, rfl⟩
  rw [hce]
  by_cases hce0 : ce = 0
  · subst hce0
    go_wp2_with fail
    have d0 : W2.drew.cell? ⟨cb, 1, none⟩ = some (.iface 85 (.agg #[])) := by have := HI2.out.blk.cell 1; simpa using this
    have d1 : W2.drew.cell? ⟨rb, 1, none⟩ = some (.string t) := by have := HX2.out.cell 1; simpa using this
    have hS0 : W2.drew.cell? ⟨cb, 1, none⟩ = some (.iface 85 (.agg #[])) ∧ W2.drew.cell? ⟨rb, 1, none⟩ = some (.string t) := ⟨d0, d1⟩
    refine wp_region_held_drew (S := fun w' => w'.cell? ⟨cb, 1, none⟩ = some (.iface 85 (.agg #[])) ∧ w'.cell? ⟨rb, 1, none⟩ = some (.string t)) (by kernel_rfl) hS0 (fun hHeld => ?_)
    clear hS0 d0 d1
    refine wpAnyH_takeD (i := 0) (d := some 13) (v := ?_) rfl rfl (by kernel_rfl) (by kernel_rfl) (by kernel_rfl) (fun _ _ _ h => h) (Or.inl ⟨by rfl, ?_⟩) (by assumption) ?_
    rotate_left
    · intro w hSw; (try dsimp only at hSw); go_simp; all_goals (with_reducible rfl)
    simp only [Act.put, List.setIfInBounds_toArray, List.set_cons_zero, List.set_cons_succ]
    refine wpAnyH_takeD (i := 1) (d := some 14) (v := ?_) rfl rfl (by kernel_rfl) (by kernel_rfl) (by kernel_rfl) (fun _ _ _ h => h) (Or.inl ⟨by rfl, ?_⟩) (by assumption) ?_
    rotate_left
    · intro w hSw; (try dsimp only at hSw); go_simp; all_goals (with_reducible rfl)
    simp only [Act.put, List.setIfInBounds_toArray, List.set_cons_zero, List.set_cons_succ]
    refine wpAnyH_takeD (i := 2) (d := some 15) (v := ?_) rfl rfl (by kernel_rfl) (by kernel_rfl) (by kernel_rfl) (fun _ _ _ h => h) (Or.inl ⟨by rfl, ?_⟩) (by assumption) ?_
    rotate_left
    · intro w hSw; (try dsimp only at hSw); go_simp; all_goals (with_reducible rfl)
    simp only [Act.put, List.setIfInBounds_toArray, List.set_cons_zero, List.set_cons_succ]
    refine wpAnyH_takeD (i := 3) (d := some 16) (v := ?_) rfl rfl (by kernel_rfl) (by kernel_rfl) (by kernel_rfl) (fun _ _ _ h => h) (Or.inl ⟨by rfl, ?_⟩) (by assumption) ?_
    rotate_left
    · intro w hSw; (try dsimp only at hSw); go_simp; all_goals (with_reducible rfl)
    simp only [Act.put, List.setIfInBounds_toArray, List.set_cons_zero, List.set_cons_succ]
    refine wpAnyH_takeD (i := 4) (d := some 17) (v := ?_) rfl rfl (by kernel_rfl) (by kernel_rfl) (by kernel_rfl) (fun _ _ _ h => h) (Or.inl ⟨by rfl, ?_⟩) (by assumption) ?_
    rotate_left
    · intro w hSw; (try dsimp only at hSw); go_simp; all_goals (with_reducible rfl)
    simp only [Act.put, List.setIfInBounds_toArray, List.set_cons_zero, List.set_cons_succ]
    refine wpAnyH_takeD (i := 5) (d := some 18) (v := ?_) rfl rfl (by kernel_rfl) (by kernel_rfl) (by kernel_rfl) (fun _ _ _ h => h) (Or.inl ⟨by rfl, ?_⟩) (by assumption) ?_
    rotate_left
    · intro w hSw; (try dsimp only at hSw); go_simp; all_goals (with_reducible rfl)
    simp only [Act.put, List.setIfInBounds_toArray, List.set_cons_zero, List.set_cons_succ]
    obtain ⟨W3, hW3⟩ : ∃ W, W2.drew = W := ⟨_, rfl⟩
    have HI3 := Lib.hid HI2.out.drew
    have HX3 := Lib.hid (show Blk W2.drew rb _ _ from HX2.out)
    have HB3 := Lib.hid HB2.out.drew
    rw [hW3] at HI3 HX3 HB3 hHeld ⊢
    clear hW3 HI2 HX2 HB2
    obtain ⟨v4, W4, hconv, hrd4, hb4⟩ := conv_runes t W3 (by omega)
    have HI4 := Lib.hid (HI3.out.below hb4)
    have HX4 := Lib.hid (HX3.out.below hb4 HX3.out.lt)
    have HB4 := Lib.hid (HB3.out.trans (hb4.mono HB3.out.size))
    have HR4 := Lib.hid hrd4; clear hrd4 hb4
    clear HI3 HX3 HB3 hHeld
    refine wpAnyH_ready (rs := [6]) (by kernel_rfl) (by simp) ?_
    refine AllReadyH.cons (o := _) rfl (fun K hK => ?_) AllReadyH.nil
    go_simp
    have d0 : W4.cell? ⟨cb, 1, none⟩ = some (.iface 85 (.agg #[])) := by have := HI4.out.blk.cell 1; simpa using this
    have d1 : W4.cell? ⟨rb, 1, none⟩ = some (.string t) := by have := HX4.out.cell 1; simpa using this
    refine hK.out _ _ ⟨d0, d1⟩ (fun hHeld => ?_)
    clear hK K hconv
    try simp only [Act.put, List.setIfInBounds_toArray, List.set_cons_zero, List.set_cons_succ]
    refine wpAnyH_ready (rs := [7]) (by kernel_rfl) (by simp) ?_
    refine AllReadyH.cons (o := _) rfl (fun K hK => ?_) AllReadyH.nil
    go_simp
    have hlr : (runesL t).length ≤ 300000 := by rw [runesL_len]; have := Lib.runeCount_le t; omega
    refine (nfd_any _ _ W4 HR4.out hlr).mono ?_
    rintro e W5 ⟨v5, rfl, hown, hb5⟩
    have HI5 := Lib.hid (HI4.out.below hb5)
    have HX5 := Lib.hid (HX4.out.below hb5 HX4.out.lt)
    have HB5 := Lib.hid (HB4.out.trans (hb5.mono HB4.out.size))
    have hbs := HB4.out.size
    have HO5 := Lib.hid (hown.mono (B' := w.heap.size) (fun j e => by have := (hown.lt j e).1; omega)); clear hown hb5
    clear d0 d1 hHeld hbs HI4 HX4 HB4 HR4
    go_wp2_with fail
    have d0 : W5.cell? ⟨cb, 1, none⟩ = some (.iface 85 (.agg #[])) := by have := HI5.out.blk.cell 1; simpa using this
    have d1 : W5.cell? ⟨rb, 1, none⟩ = some (.string t) := by have := HX5.out.cell 1; simpa using this
    refine hK.out _ _ ⟨d0, d1⟩ (fun hHeld => ?_)
    clear hK K d0 d1
    try simp only [Act.put, List.setIfInBounds_toArray, List.set_cons_zero, List.set_cons_succ]
    refine wpAnyH_takeD (i := 8) (d := some 7) (v := ?_) rfl rfl (by kernel_rfl) (by kernel_rfl) (by kernel_rfl) (fun _ _ _ h => h) (Or.inl ⟨by rfl, ?_⟩) (by assumption) ?_
    rotate_left
    · intro w hSw; (try dsimp only at hSw); go_simp; all_goals (with_reducible rfl)
    simp only [Act.put, List.setIfInBounds_toArray, List.set_cons_zero, List.set_cons_succ]
    refine wpAnyH_done (by kernel_rfl) ?_ _
    clear hHeld
    obtain ⟨a5, cap5, hv5⟩ : ∃ a cap, v5 = .slice a (nfdL (runesL t)).length cap := by obtain ⟨a, cap, h, _⟩ := HO5.out.rd; exact ⟨a, cap, h⟩
    obtain ⟨kl, hkl⟩ : ∃ k : Nat, (nfdL (runesL t)).length = k := ⟨_, rfl⟩
    rw [hkl] at hv5
    by_cases h18 : 18 < kl
    · have e18 : (18 : Int) < (kl : Int) := by omega
      have HNO := Lib.hid (show ¬ RowOk ps c t fl from fun h => by have := h.2.1; omega)
      subst hv5
      clear hkl
      go_wp2
      go_ret2
      exact ⟨_, _, rfl, .inr ⟨by decide, HNO.out⟩, Keep.of_below HB5.out rfl⟩
    · have e18 : ¬ (18 : Int) < (kl : Int) := by omega
      have H18 := Lib.hid (show (nfdL (runesL t)).length ≤ 18 by omega)
      have HCE := Lib.hid hce; clear hce
      clear hkl
      have d2 : W5.cell? ⟨rb, 2, none⟩ = some (.int .i64 fl) := by have := HX5.out.cell 2; simpa using this
      by_cases hf : fl = 1
      · have ef : (fl == 1) = true := by simp [hf]
        have HOK := Lib.hid (show RowOk ps c t fl from ⟨HCE.out, H18.out, .inl hf⟩)
        have HPS := Lib.hid (show rowPs ps c t fl = ps by unfold rowPs; rw [if_pos hf])
        clear hf
        subst hv5
        go_wp2
        go_ret2
        exact ⟨_, _, rfl, .inl ⟨rfl, HOK.out, by rw [← hrb]; exact HO5.out, by rw [HPS.out]; exact HI5.out.weak (by omega) (fun _ => rfl)⟩, Keep.of_below HB5.out rfl⟩
      · have ef : (fl == 1) = false := by simp [hf]
        have HF := Lib.hid hf; clear hf
        subst hv5
        have hc4 : c.size ≤ 4 := by
          have := HCE.out; unfold checkE at this
          by_cases h : c.size < 1 ∨ 4 < c.size ∨ (Lib.runeCount t : Int) < 1 ∨ 18 < (Lib.runeCount t : Int) ∨ Lib.validD t.data.toList = false
          · rw [if_pos h] at this; cases this
          · omega
        have d0 : W5.cell? ⟨rb, 0, none⟩ = some (.string c) := by have := HX5.out.cell 0; simpa using this
        have d1 : W5.cell? ⟨rb, 1, none⟩ = some (.string t) := by have := HX5.out.cell 1; simpa using this
        have HD := Lib.hid (decodes_any cb tm hm B c0 _ c2 c5 c6 ps c t fl W5 HI5.out hB (by omega) (by omega))
        go_wp2_with fail
        refine HD.out.mono ?_
        rintro e W6 ⟨er, rfl, hor, hk6⟩
        have hk : Keep (fun j => j = tm ∨ j = hm) w W6 := (Keep.of_below HB5.out rfl).trans hk6 (fun _ _ h => h)
        have hO6 : Own 21 .i32 w.heap.size W6 _ (nfdL (runesL t)) := HO5.out.keep hk6 (fun j e => by have := (HO5.out.lt j e).1; omega)
        have HK := Lib.hid hk; clear hk hk6
        have HO6 := Lib.hid hO6; clear hO6
        rcases hor with ⟨rfl, hok, hI6⟩ | ⟨hne, hno⟩
        · have HOK := Lib.hid (show RowOk ps c t fl from ⟨HCE.out, H18.out, .inr hok⟩)
          have HPS := Lib.hid (show rowPs ps c t fl = ps ++ [(c, t)] by unfold rowPs; rw [if_neg HF.out])
          have HI6 := Lib.hid hI6; clear hI6 hok
          go_wp2
          go_ret2
          exact ⟨_, _, rfl, .inl ⟨rfl, HOK.out, by rw [← hrb]; exact HO6.out, by rw [HPS.out]; exact HI6.out⟩, HK.out⟩
        · have HNO := Lib.hid (show ¬ RowOk ps c t fl from fun h => by
            rcases h.2.2 with h | h
            · exact HF.out h
            · exact hno h)
          have HNE := Lib.hid hne; clear hne hno
          go_wp2
          go_ret2
          exact ⟨_, _, rfl, .inr ⟨HNE.out, HNO.out⟩, HK.out⟩
  · have ece : (ce != 0) = true := by simp [hce0]
    have HNO := Lib.hid (show ¬ RowOk ps c t fl from fun h => hce0 (hce ▸ h.1))
    have HNE := Lib.hid hce0; clear hce0 hce
    go_wp2
    go_ret2
    exact ⟨_, _, rfl, .inr ⟨HNE.out, HNO.out⟩, Keep.of_below HB2.out rfl⟩

end Go.Proofs.YtplobpelhcagpaaDoor
