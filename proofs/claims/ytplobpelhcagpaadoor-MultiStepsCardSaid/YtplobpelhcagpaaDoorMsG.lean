/-
  Multi: a charset's maps; decodes.
-/
import Derived.Test.YtplobpelhcagpaaDoorMsF
import Derived.Maps.Views
namespace Go.Proofs.YtplobpelhcagpaaDoor
open Go.RowKit Go.Shelf Pl14

/-- a code and its text -/
abbrev CT := ByteArray × ByteArray
def lookT (ps : List CT) (s : List UInt8) : Option (List UInt8) := (ps.find? (fun p => decide (p.1.data.toList = s))).map (fun p => p.2.data.toList)
theorem lookT_snoc (ps : List CT) (p : CT) (s : List UInt8) : lookT (ps ++ [p]) s = match lookT ps s with | some t => some t | none => if p.1.data.toList = s then some p.2.data.toList else none := by
  unfold lookT
  rw [List.find?_append]
  cases h : ps.find? (fun p => decide (p.1.data.toList = s)) with
  | some q => simp
  | none => by_cases e : p.1.data.toList = s <;> simp [e]
def headB (ps : List CT) (s : List UInt8) : Bool := ps.any (fun p => decide (∃ j, j < p.1.data.toList.length ∧ s = p.1.data.toList.take j))
theorem headB_snoc (ps : List CT) (p : CT) (s : List UInt8) : headB (ps ++ [p]) s = (headB ps s || decide (∃ j, j < p.1.data.toList.length ∧ s = p.1.data.toList.take j)) := by simp [headB]

def TextsAre (D : DataW Unit) (ps : List CT) : Prop := ∀ s, Maps.has D (.string s) = (lookT ps s).isSome ∧ D.atKey (.string s) (.lit (.string [])) = .lit (.string ((lookT ps s).getD []))
def HeadsAre (D : DataW Unit) (hb : List UInt8 → Bool) : Prop := ∀ s, D.atKey (.string s) (.lit (.bool false)) = .lit (.bool (hb s))
theorem TextsAre.start : TextsAre (.map []) [] := fun s => by simp [lookT, Maps.has, DataW.atKey]
theorem HeadsAre.start : HeadsAre (.map []) (headB []) := fun s => by simp [headB, DataW.atKey]
theorem TextsAre.put {D : DataW Unit} {ps : List CT} {p : CT} (h : TextsAre D ps) (hD : Maps.IsMap D) (hn : lookT ps p.1.data.toList = none) : TextsAre (D.put (.string p.1.data.toList) (.lit (.string p.2.data.toList))) (ps ++ [p]) := fun s => by
  rw [lookT_snoc]
  by_cases e : p.1.data.toList = s
  · subst e
    rw [Maps.has_put_same hD (by trivial), Maps.atKey_put_same hD (by trivial), hn]
    simp
  · have hne : (Lit.string s) ≠ .string p.1.data.toList := fun h => e (by simpa using h.symm)
    rw [Maps.has_put_other hne, Maps.atKey_put_other hne, (h s).1, (h s).2]
    cases lookT ps s <;> simp [e]
theorem HeadsAre.put {D : DataW Unit} {hb : List UInt8 → Bool} (h : HeadsAre D hb) (hD : Maps.IsMap D) (k : List UInt8) : HeadsAre (D.put (.string k) (.lit (.bool true))) (fun s => hb s || decide (s = k)) := fun s => by
  by_cases e : s = k
  · subst e; rw [Maps.atKey_put_same hD (by trivial)]; simp
  · rw [Maps.atKey_put_other (fun h => e (by simpa using h)), h s]; simp [e]
theorem HeadsAre.congr {D : DataW Unit} {hb hb' : List UInt8 → Bool} (h : HeadsAre D hb) (e : ∀ s, hb s = hb' s) : HeadsAre D hb' := fun s => by rw [← e]; exact h s

theorem plainElem_string_inv {H : Type} {P : Program} {e : TypeId} (he : P.underlying e = some .string) {v : Value} {z : DataW H × List MemPlace} (h : plainElem P e v = some z) : ∃ s : ByteArray, v = .string s ∧ z = (.lit (.string s.data.toList), []) := by
  unfold plainElem at h
  rw [he] at h
  cases v <;> simp at h
  exact ⟨_, rfl, h.2.symm⟩
theorem bytes_eq {a b : ByteArray} (h : a.data.toList = b.data.toList) : a = b := by
  cases a; cases b
  simp only [Array.toList_inj] at h
  rw [h]

theorem size_toList (b : ByteArray) : b.size = b.data.toList.length := Array.length_toList.symm
theorem extract_take (b : ByteArray) (i : Nat) (h : i ≤ b.size) : (b.extract 0 i).data.toList = b.data.toList.take i := by simp [ByteArray.data_extract]
theorem extract_size (b : ByteArray) (i : Nat) (h : i ≤ b.size) : (b.extract 0 i).size = i := by
  rw [size_toList, extract_take b i h, List.length_take, ← size_toList]; omega
/-- the texts' map answers -/
theorem look_text {P : Program} {w : World} {k t e : TypeId} {b n : Nat} {D : DataW Unit} {ps : List CT} (h : w.ownsMap P k (plainElem P e) b n D) (hT : TextsAre D ps) (K : Maps.Keyed P k) (ht : P.underlying t = some (.map k e)) (he : P.underlying e = some .string)
    (hz : (zeroValue e).run P w = .ok (.string ⟨#[]⟩) w) {key : Value} {s : List UInt8} (hkey : keyOf P k key = some (.string s)) :
    ∃ x : ByteArray, (Instr.lookup t (.map (some b)) key true).run P w = .ok (.tuple #[.string x, .bool (lookT ps s).isSome]) w ∧ x.data.toList = (lookT ps s).getD [] := by
  obtain ⟨v, qs, hrun, hv⟩ := h.look_ok K ht hz (plainElem_string he (s := ⟨#[]⟩) (by decide)) hkey
  obtain ⟨x, rfl, hx⟩ := plainElem_string_inv he hv
  simp only [Prod.mk.injEq] at hx
  have h1 := (hT s).2
  rw [show (DataW.lit (Lit.string (⟨#[]⟩ : ByteArray).data.toList) : DataW Unit) = .lit (.string []) from rfl] at hx
  rw [hx.1] at h1
  rw [(hT s).1] at hrun
  exact ⟨x, hrun, by simpa using h1⟩

/-- what a charset holds while it is made -/
structure CsI (cb tm hm : Nat) (c0 c1 c2 c5 c6 : Value) (ps : List CT) (hb : List UInt8 → Bool) (B : Nat) (wr : World) : Prop where
  blk : Blk wr cb #[c0, c1, c2, .map (some tm), .map (some hm), c5, c6] 72
  tex : ∃ n D, n ≤ B ∧ wr.ownsMap Tryd.prog 9 (plainElem Tryd.prog 9) tm n D ∧ TextsAre D ps
  hea : ∃ n D, n ≤ B ∧ wr.ownsMap Tryd.prog 9 (plainElem Tryd.prog 4) hm n D ∧ HeadsAre D hb
  ne : tm ≠ hm ∧ tm ≠ cb ∧ hm ≠ cb
theorem CsI.kept {cb tm hm B : Nat} {c0 c1 c2 c5 c6 : Value} {ps : List CT} {hb : List UInt8 → Bool} {wr w' : World} {row : Option Nat} (h : CsI cb tm hm c0 c1 c2 c5 c6 ps hb B wr) (hg : wr.grownBy w' row) (hr : row ≠ some cb ∧ row ≠ some tm ∧ row ≠ some hm) : CsI cb tm hm c0 c1 c2 c5 c6 ps hb B w' := by
  obtain ⟨n, D, hn, hD, hT⟩ := h.tex
  obtain ⟨n2, D2, hn2, hD2, hT2⟩ := h.hea
  exact ⟨h.blk.grown hg hr.1.symm, ⟨n, D, hn, hD.kept hg hr.2.1.symm, hT⟩, ⟨n2, D2, hn2, hD2.kept hg hr.2.2.symm, hT2⟩, h.ne⟩
theorem CsI.below {cb tm hm B : Nat} {c0 c1 c2 c5 c6 : Value} {ps : List CT} {hb : List UInt8 → Bool} {wr w' : World} (h : CsI cb tm hm c0 c1 c2 c5 c6 ps hb B wr) (hbl : Below wr.heap.size wr w') : CsI cb tm hm c0 c1 c2 c5 c6 ps hb B w' := h.kept (below_grown hbl) ⟨by simp, by simp, by simp⟩
theorem CsI.drew {cb tm hm B : Nat} {c0 c1 c2 c5 c6 : Value} {ps : List CT} {hb : List UInt8 → Bool} {wr : World} (h : CsI cb tm hm c0 c1 c2 c5 c6 ps hb B wr) : CsI cb tm hm c0 c1 c2 c5 c6 ps hb B wr.drew := ⟨h.blk, h.tex, h.hea, h.ne⟩
theorem CsI.lt {cb tm hm B : Nat} {c0 c1 c2 c5 c6 : Value} {ps : List CT} {hb : List UInt8 → Bool} {wr : World} (h : CsI cb tm hm c0 c1 c2 c5 c6 ps hb B wr) : cb < wr.heap.size ∧ tm < wr.heap.size ∧ hm < wr.heap.size := by
  obtain ⟨n, D, hn, hD, hT⟩ := h.tex
  obtain ⟨n2, D2, hn2, hD2, hT2⟩ := h.hea
  exact ⟨h.blk.lt, hD.lt, hD2.lt⟩

theorem CsI.texPut {cb tm hm B n' : Nat} {c0 c1 c2 c5 c6 : Value} {ps ps' : List CT} {hb : List UInt8 → Bool} {wr w' : World} {D' : DataW Unit} (h : CsI cb tm hm c0 c1 c2 c5 c6 ps hb B wr) (hg : wr.grownBy w' (some tm)) (hm' : w'.ownsMap Tryd.prog 9 (plainElem Tryd.prog 9) tm n' D') (hn : n' ≤ B + 1) (hT : TextsAre D' ps') : CsI cb tm hm c0 c1 c2 c5 c6 ps' hb (B + 1) w' := by
  obtain ⟨n2, D2, hn2, hD2, hT2⟩ := h.hea
  have hne := h.ne
  exact ⟨h.blk.grown hg (by simp; omega), ⟨n', D', hn, hm', hT⟩, ⟨n2, D2, by omega, hD2.kept hg (by simp; omega), hT2⟩, h.ne⟩
theorem CsI.heaPut {cb tm hm B n' : Nat} {c0 c1 c2 c5 c6 : Value} {ps : List CT} {hb hb' : List UInt8 → Bool} {wr w' : World} {D' : DataW Unit} (h : CsI cb tm hm c0 c1 c2 c5 c6 ps hb B wr) (hg : wr.grownBy w' (some hm)) (hm' : w'.ownsMap Tryd.prog 9 (plainElem Tryd.prog 4) hm n' D') (hn : n' ≤ B + 1) (hT : HeadsAre D' hb') : CsI cb tm hm c0 c1 c2 c5 c6 ps hb' (B + 1) w' := by
  obtain ⟨n2, D2, hn2, hD2, hT2⟩ := h.tex
  have hne := h.ne
  exact ⟨h.blk.grown hg (by simp; omega), ⟨n2, D2, by omega, hD2.kept hg (by simp; omega), hT2⟩, ⟨n', D', hn, hm', hT⟩, h.ne⟩
theorem CsI.weak {cb tm hm B B' : Nat} {c0 c1 c2 c5 c6 : Value} {ps : List CT} {hb hb' : List UInt8 → Bool} {wr : World} (h : CsI cb tm hm c0 c1 c2 c5 c6 ps hb B wr) (hB : B ≤ B') (e : ∀ s, hb s = hb' s) : CsI cb tm hm c0 c1 c2 c5 c6 ps hb' B' wr := by
  obtain ⟨n, D, hn, hD, hT⟩ := h.tex
  obtain ⟨n2, D2, hn2, hD2, hT2⟩ := h.hea
  exact ⟨h.blk, ⟨n, D, by omega, hD, hT⟩, ⟨n2, D2, by omega, hD2, hT2.congr e⟩, h.ne⟩

/-- may a code be taken behind others? -/
def DecOk (ps : List CT) (c : List UInt8) : Prop := lookT ps c = none ∧ headB ps c = false ∧ ∀ j, j < c.length → lookT ps (c.take j) = none

set_option maxRecDepth 100000 in
set_option maxHeartbeats 8000000 in
theorem decodes_any (cb tm hm B : Nat) (c0 c1 c2 c5 c6 : Value) (ps : List CT) (c t : ByteArray) (fl : Int) (w : World) (hI : CsI cb tm hm c0 c1 c2 c5 c6 ps (headB ps) B w) (hB : B ≤ 1000000000) (hc : c.size ≤ 1000) (ht : t.size ≤ 1000000) :
    Calls Tryd.prog 42 #[.pointer (some ⟨cb, 0, none⟩), rowV c t fl] w fun e w' => ∃ er, e = .returned (.int .i64 er) ∧
      ((er = 0 ∧ DecOk ps c.data.toList ∧ CsI cb tm hm c0 c1 c2 c5 c6 (ps ++ [(c, t)]) (headB (ps ++ [(c, t)])) (B + 2000) w') ∨ (er ≠ 0 ∧ ¬ DecOk ps c.data.toList)) ∧ Keep (fun j => j = tm ∨ j = hm) w w' := by
  have hsz : ∀ s : ByteArray, s.size ≤ 1000000 → s.size ≤ maxLen := fun s h => by unfold maxLen; omega
  have HI := Lib.hid hI; clear hI
  unfold rowV
  go_enter Tryd.func42, Tryd.ntmps42
  go_wp2_with fail
  obtain ⟨rb, hrb⟩ : ∃ q, w.heap.size = q := ⟨_, rfl⟩
  obtain ⟨W1, hW1⟩ : ∃ W, w.alloc (.cells #[.string c, .string t, .int .i64 fl] 47) = W := ⟨_, rfl⟩
  have hx1 : Blk W1 rb #[.string c, .string t, .int .i64 fl] 47 := by rw [← hW1, ← hrb]; exact Blk.new _ _ _
  have hb1 : Below w.heap.size w W1 := by rw [← hW1]; exact (Below.refl _ _).alloc (Nat.le_refl _) _
  have HI1 := Lib.hid (HI.out.below hb1)
  have hl := HI.out.lt
  rw [hrb] at hl
  rw [hW1]
  try rw [hrb]
  have HX := Lib.hid hx1; clear hx1
  have HB1 := Lib.hid hb1; clear hb1
  clear hW1 HI
  have d0 : W1.drew.cell? ⟨cb, 3, none⟩ = some (.map (some tm)) := by have := HI1.out.blk.cell 3; simpa using this
  have d1 : W1.drew.cell? ⟨rb, 0, none⟩ = some (.string c) := by have := HX.out.cell 0; simpa using this
  have hS0 : W1.drew.cell? ⟨cb, 3, none⟩ = some (.map (some tm)) ∧ W1.drew.cell? ⟨rb, 0, none⟩ = some (.string c) := ⟨d0, d1⟩
  refine wp_region_held_drew (S := fun w' => w'.cell? ⟨cb, 3, none⟩ = some (.map (some tm)) ∧ w'.cell? ⟨rb, 0, none⟩ = some (.string c)) (by kernel_rfl) hS0 (fun hHeld => ?_)
  clear hS0
  refine wpAnyH_takeD (i := 0) (d := some 12) (v := ?_) rfl rfl (by kernel_rfl) (by kernel_rfl) (by kernel_rfl) (fun _ _ _ h => h) (Or.inl ⟨by rfl, ?_⟩) (by assumption) ?_
  rotate_left
  · intro w hSw; (try dsimp only at hSw); go_simp; all_goals (with_reducible rfl)
  simp only [Act.put, List.setIfInBounds_toArray, List.set_cons_zero, List.set_cons_succ]
  refine wpAnyH_takeD (i := 1) (d := some 13) (v := ?_) rfl rfl (by kernel_rfl) (by kernel_rfl) (by kernel_rfl) (fun _ _ _ h => h) (Or.inl ⟨by rfl, ?_⟩) (by assumption) ?_
  rotate_left
  · intro w hSw; (try dsimp only at hSw); go_simp; all_goals (with_reducible rfl)
  simp only [Act.put, List.setIfInBounds_toArray, List.set_cons_zero, List.set_cons_succ]
  refine wpAnyH_takeD (i := 2) (d := some 14) (v := ?_) rfl rfl (by kernel_rfl) (by kernel_rfl) (by kernel_rfl) (fun _ _ _ h => h) (Or.inl ⟨by rfl, ?_⟩) (by assumption) ?_
  rotate_left
  · intro w hSw; (try dsimp only at hSw); go_simp; all_goals (with_reducible rfl)
  simp only [Act.put, List.setIfInBounds_toArray, List.set_cons_zero, List.set_cons_succ]
  refine wpAnyH_takeD (i := 3) (d := some 15) (v := ?_) rfl rfl (by kernel_rfl) (by kernel_rfl) (by kernel_rfl) (fun _ _ _ h => h) (Or.inl ⟨by rfl, ?_⟩) (by assumption) ?_
  rotate_left
  · intro w hSw; (try dsimp only at hSw); go_simp; all_goals (with_reducible rfl)
  simp only [Act.put, List.setIfInBounds_toArray, List.set_cons_zero, List.set_cons_succ]
  refine wpAnyH_takeD (i := 4) (d := some 16) (v := ?_) rfl rfl (by kernel_rfl) (by kernel_rfl) (by kernel_rfl) (fun _ _ _ h => h) (Or.inl ⟨by rfl, ?_⟩) (by assumption) ?_
  rotate_left
  · intro w hSw; (try dsimp only at hSw); go_simp; all_goals (with_reducible rfl)
  simp only [Act.put, List.setIfInBounds_toArray, List.set_cons_zero, List.set_cons_succ]
  refine wpAnyH_takeD (i := 5) (d := some 17) (v := ?_) rfl rfl (by kernel_rfl) (by kernel_rfl) (by kernel_rfl) (fun _ _ _ h => h) (Or.inl ⟨by rfl, ?_⟩) (by assumption) ?_
  rotate_left
  · intro w hSw; (try dsimp only at hSw); go_simp; all_goals (with_reducible rfl)
  simp only [Act.put, List.setIfInBounds_toArray, List.set_cons_zero, List.set_cons_succ]
  have hkey := WideMaps.keyOf_string_mk (P := Tryd.prog) Tryd.underlying9 (hsz c (by omega))
  obtain ⟨n0, D0, hn0, hD0, hT0⟩ := HI1.out.tex
  obtain ⟨x0, hrun0, _⟩ := look_text (w := W1.drew) hD0 hT0 (Maps.string_keyed Tryd.underlying9) Tryd.underlying67 Tryd.underlying9 (Tryd.zeroValue9 _) hkey
  refine wpAnyH_ready (rs := [6]) (by kernel_rfl) (by simp) ?_
  refine AllReadyH.cons (o := _) rfl (fun K hK => ?_) AllReadyH.nil
  go_simp
  refine hK.out _ _ hHeld (fun hHeld => ?_)
  clear hK K
  try simp only [Act.put, List.setIfInBounds_toArray, List.set_cons_zero, List.set_cons_succ]
  refine wpAnyH_takeD (i := 7) (d := some 11) (v := ?_) rfl rfl (by kernel_rfl) (by kernel_rfl) (by kernel_rfl) (fun _ _ _ h => h) (Or.inl ⟨by rfl, ?_⟩) (by assumption) ?_
  rotate_left
  · intro w hSw; (try dsimp only at hSw); go_simp; all_goals (with_reducible rfl)
  simp only [Act.put, List.setIfInBounds_toArray, List.set_cons_zero, List.set_cons_succ]
  refine wpAnyH_takeD (i := 8) (d := some 19) (v := ?_) rfl rfl (by kernel_rfl) (by kernel_rfl) (by kernel_rfl) (fun _ _ _ h => h) (Or.inl ⟨by rfl, ?_⟩) (by assumption) ?_
  rotate_left
  · intro w hSw; (try dsimp only at hSw); go_simp; all_goals (with_reducible rfl)
  simp only [Act.put, List.setIfInBounds_toArray, List.set_cons_zero, List.set_cons_succ]
  refine wpAnyH_takeD (i := 9) (d := some 20) (v := ?_) rfl rfl (by kernel_rfl) (by kernel_rfl) (by kernel_rfl) (fun _ _ _ h => h) (Or.inl ⟨by rfl, ?_⟩) (by assumption) ?_
  rotate_left
  · intro w hSw; (try dsimp only at hSw); go_simp; all_goals (with_reducible rfl)
  simp only [Act.put, List.setIfInBounds_toArray, List.set_cons_zero, List.set_cons_succ]
  refine wpAnyH_takeD (i := 10) (d := some 5) (v := ?_) rfl rfl (by kernel_rfl) (by kernel_rfl) (by kernel_rfl) (fun _ _ _ h => h) (Or.inl ⟨by rfl, ?_⟩) (by assumption) ?_
  rotate_left
  · intro w hSw; (try dsimp only at hSw); go_simp; all_goals (with_reducible rfl)
  simp only [Act.put, List.setIfInBounds_toArray, List.set_cons_zero, List.set_cons_succ]
  refine wpAnyH_takeD (i := 11) (d := some 6) (v := ?_) rfl rfl (by kernel_rfl) (by kernel_rfl) (by kernel_rfl) (fun _ _ _ h => h) (Or.inl ⟨by rfl, ?_⟩) (by assumption) ?_
  rotate_left
  · intro w hSw; (try dsimp only at hSw); go_simp; all_goals (with_reducible rfl)
  simp only [Act.put, List.setIfInBounds_toArray, List.set_cons_zero, List.set_cons_succ]
  refine wpAnyH_done (by kernel_rfl) ?_ _
  clear hrun0 hD0 hT0 hn0 d0 d1 hHeld
  obtain ⟨W2, hW2⟩ : ∃ W, W1.drew = W := ⟨_, rfl⟩
  have HI2 := Lib.hid HI1.out.drew
  have HX2 := Lib.hid (show Blk W1.drew rb _ _ from HX.out)
  have HB2 := Lib.hid HB1.out.drew
  rw [hW2] at HI2 HX2 HB2 ⊢
  have hs2 : rb < W2.heap.size := HX2.out.lt
  clear hW2 HI1 HX HB1
  have HKEY := Lib.hid hkey; clear hkey
  cases hl1 : (lookT ps c.data.toList).isSome with
  | true =>
    have hno : ¬ DecOk ps c.data.toList := fun h => by rw [h.1] at hl1; cases hl1
    have HNO := Lib.hid hno; clear hno hl1
    go_wp2
    go_ret
    exact ⟨_, rfl, .inr ⟨by decide, HNO.out⟩, Keep.of_below HB2.out rfl⟩
  | false =>
    have HL1 := Lib.hid (show lookT ps c.data.toList = none by cases h : lookT ps c.data.toList with | none => rfl | some x => rw [h] at hl1; cases hl1)
    clear hl1
    have d0 : W2.cell? ⟨cb, 4, none⟩ = some (.map (some hm)) := by have := HI2.out.blk.cell 4; simpa using this
    have d1 : W2.cell? ⟨rb, 0, none⟩ = some (.string c) := by have := HX2.out.cell 0; simpa using this
    go_wp2_with fail
    have hS0 : W2.drew.cell? ⟨cb, 4, none⟩ = some (.map (some hm)) ∧ W2.drew.cell? ⟨rb, 0, none⟩ = some (.string c) := ⟨d0, d1⟩
    refine wp_region_held_drew (S := fun w' => w'.cell? ⟨cb, 4, none⟩ = some (.map (some hm)) ∧ w'.cell? ⟨rb, 0, none⟩ = some (.string c)) (by kernel_rfl) hS0 (fun hHeld => ?_)
    clear hS0
    refine wpAnyH_takeD (i := 0) (d := some 22) (v := ?_) rfl rfl (by kernel_rfl) (by kernel_rfl) (by kernel_rfl) (fun _ _ _ h => h) (Or.inl ⟨by rfl, ?_⟩) (by assumption) ?_
    rotate_left
    · intro w hSw; (try dsimp only at hSw); go_simp; all_goals (with_reducible rfl)
    simp only [Act.put, List.setIfInBounds_toArray, List.set_cons_zero, List.set_cons_succ]
    refine wpAnyH_takeD (i := 1) (d := some 23) (v := ?_) rfl rfl (by kernel_rfl) (by kernel_rfl) (by kernel_rfl) (fun _ _ _ h => h) (Or.inl ⟨by rfl, ?_⟩) (by assumption) ?_
    rotate_left
    · intro w hSw; (try dsimp only at hSw); go_simp; all_goals (with_reducible rfl)
    simp only [Act.put, List.setIfInBounds_toArray, List.set_cons_zero, List.set_cons_succ]
    refine wpAnyH_takeD (i := 2) (d := some 24) (v := ?_) rfl rfl (by kernel_rfl) (by kernel_rfl) (by kernel_rfl) (fun _ _ _ h => h) (Or.inl ⟨by rfl, ?_⟩) (by assumption) ?_
    rotate_left
    · intro w hSw; (try dsimp only at hSw); go_simp; all_goals (with_reducible rfl)
    simp only [Act.put, List.setIfInBounds_toArray, List.set_cons_zero, List.set_cons_succ]
    refine wpAnyH_takeD (i := 3) (d := some 25) (v := ?_) rfl rfl (by kernel_rfl) (by kernel_rfl) (by kernel_rfl) (fun _ _ _ h => h) (Or.inl ⟨by rfl, ?_⟩) (by assumption) ?_
    rotate_left
    · intro w hSw; (try dsimp only at hSw); go_simp; all_goals (with_reducible rfl)
    simp only [Act.put, List.setIfInBounds_toArray, List.set_cons_zero, List.set_cons_succ]
    refine wpAnyH_takeD (i := 4) (d := some 26) (v := ?_) rfl rfl (by kernel_rfl) (by kernel_rfl) (by kernel_rfl) (fun _ _ _ h => h) (Or.inl ⟨by rfl, ?_⟩) (by assumption) ?_
    rotate_left
    · intro w hSw; (try dsimp only at hSw); go_simp; all_goals (with_reducible rfl)
    simp only [Act.put, List.setIfInBounds_toArray, List.set_cons_zero, List.set_cons_succ]
    refine wpAnyH_takeD (i := 5) (d := some 27) (v := ?_) rfl rfl (by kernel_rfl) (by kernel_rfl) (by kernel_rfl) (fun _ _ _ h => h) (Or.inl ⟨by rfl, ?_⟩) (by assumption) ?_
    rotate_left
    · intro w hSw; (try dsimp only at hSw); go_simp; all_goals (with_reducible rfl)
    simp only [Act.put, List.setIfInBounds_toArray, List.set_cons_zero, List.set_cons_succ]
    obtain ⟨n0, D0, hn0, hD0, hT0⟩ := HI2.out.hea
    obtain ⟨yb, hrun0, hat0⟩ := look_bool (w := W2.drew) hD0 (Maps.string_keyed Tryd.underlying9) Tryd.underlying68 Tryd.underlying4 (Tryd.zeroValue4 _) HKEY.out
    have hyb : yb = headB ps c.data.toList := by have := (hT0 c.data.toList).symm.trans hat0; simpa using this.symm
    refine wpAnyH_ready (rs := [6]) (by kernel_rfl) (by simp) ?_
    refine AllReadyH.cons (o := _) rfl (fun K hK => ?_) AllReadyH.nil
    clear hat0
    have HYB := Lib.hid hyb; clear hyb
    go_simp
    refine hK.out _ _ hHeld (fun hHeld => ?_)
    clear hK K
    try simp only [Act.put, List.setIfInBounds_toArray, List.set_cons_zero, List.set_cons_succ]
    refine wpAnyH_done (by kernel_rfl) ?_ _
    clear hrun0 hD0 hT0 hn0 d0 d1 hHeld
    obtain ⟨W3, hW3⟩ : ∃ W, W2.drew = W := ⟨_, rfl⟩
    have HI3 := Lib.hid HI2.out.drew
    have HX3 := Lib.hid (show Blk W2.drew rb _ _ from HX2.out)
    have HB3 := Lib.hid HB2.out.drew
    rw [hW3] at HI3 HX3 HB3 ⊢
    clear hW3 HI2 HX2 HB2 hs2
    cases yb with
    | true =>
      have HNO := Lib.hid (show ¬ DecOk ps c.data.toList from fun h => by have := HYB.out; rw [h.2.1] at this; cases this)
      go_wp2
      go_ret
      exact ⟨_, rfl, .inr ⟨by decide, HNO.out⟩, Keep.of_below HB3.out rfl⟩
    | false =>
      have x0 : W3.cell? ⟨rb, 0, none⟩ = some (.string c) := by have := HX3.out.cell 0; simpa using this
      go_wp2_with fail
      go_loopw [32] (fun s32 wr => ∃ i : Nat, i ≤ c.size ∧ s32 = .int .i64 i ∧ CsI cb tm hm c0 c1 c2 c5 c6 ps (headB ps) B wr ∧ Blk wr rb #[.string c, .string t, .int .i64 fl] 47 ∧ Below rb w wr ∧ ∀ j, j < i → lookT ps (c.data.toList.take j) = none) (fun s32 _ => c.size - (intOf s32).toNat)
      case atStart => exact ⟨0, Nat.zero_le _, rfl, HI3.out, HX3.out, by rw [← hrb]; exact HB3.out, fun j hj => by omega⟩
      case round =>
        obtain ⟨i, hi, rfl, hI4, hX4, hB4, hno⟩ := hrel
        have HI4 := Lib.hid hI4; clear hI4
        have HX4 := Lib.hid hX4; clear hX4
        have HB4 := Lib.hid hB4; clear hB4
        have HNO := Lib.hid hno; clear hno
        clear x0
        by_cases hlt : i < c.size
        · have i0 : (0 : Int) ≤ (i : Int) := by omega
          have i1 : (i : Int) < (c.size : Int) := by omega
          have i2 : (i : Int) ≤ (c.size : Int) := by omega
          have d0 : wr.cell? ⟨cb, 3, none⟩ = some (.map (some tm)) := by have := HI4.out.blk.cell 3; simpa using this
          have d1 : wr.cell? ⟨rb, 0, none⟩ = some (.string c) := by have := HX4.out.cell 0; simpa using this
          go_wp2_with fail
          have hS0 : wr.drew.cell? ⟨cb, 3, none⟩ = some (.map (some tm)) ∧ wr.drew.cell? ⟨rb, 0, none⟩ = some (.string c) := ⟨d0, d1⟩
          refine wp_region_held_drew (S := fun w' => w'.cell? ⟨cb, 3, none⟩ = some (.map (some tm)) ∧ w'.cell? ⟨rb, 0, none⟩ = some (.string c)) (by kernel_rfl) hS0 (fun hHeld => ?_)
          clear hS0
          refine wpAnyH_takeD (i := 0) (d := some 36) (v := ?_) rfl rfl (by kernel_rfl) (by kernel_rfl) (by kernel_rfl) (fun _ _ _ h => h) (Or.inl ⟨by rfl, ?_⟩) (by assumption) ?_
          rotate_left
          · intro w hSw; (try dsimp only at hSw); go_simp; all_goals (with_reducible rfl)
          simp only [Act.put, List.setIfInBounds_toArray, List.set_cons_zero, List.set_cons_succ]
          refine wpAnyH_takeD (i := 1) (d := some 37) (v := ?_) rfl rfl (by kernel_rfl) (by kernel_rfl) (by kernel_rfl) (fun _ _ _ h => h) (Or.inl ⟨by rfl, ?_⟩) (by assumption) ?_
          rotate_left
          · intro w hSw; (try dsimp only at hSw); go_simp; all_goals (with_reducible rfl)
          simp only [Act.put, List.setIfInBounds_toArray, List.set_cons_zero, List.set_cons_succ]
          refine wpAnyH_takeD (i := 2) (d := some 38) (v := ?_) rfl rfl (by kernel_rfl) (by kernel_rfl) (by kernel_rfl) (fun _ _ _ h => h) (Or.inl ⟨by rfl, ?_⟩) (by assumption) ?_
          rotate_left
          · intro w hSw; (try dsimp only at hSw); go_simp; all_goals (with_reducible rfl)
          simp only [Act.put, List.setIfInBounds_toArray, List.set_cons_zero, List.set_cons_succ]
          refine wpAnyH_takeD (i := 3) (d := some 39) (v := ?_) rfl rfl (by kernel_rfl) (by kernel_rfl) (by kernel_rfl) (fun _ _ _ h => h) (Or.inl ⟨by rfl, ?_⟩) (by assumption) ?_
          rotate_left
          · intro w hSw; (try dsimp only at hSw); go_simp; all_goals (with_reducible rfl)
          simp only [Act.put, List.setIfInBounds_toArray, List.set_cons_zero, List.set_cons_succ]
          refine wpAnyH_takeD (i := 4) (d := some 40) (v := ?_) rfl rfl (by kernel_rfl) (by kernel_rfl) (by kernel_rfl) (fun _ _ _ h => h) (Or.inl ⟨by rfl, ?_⟩) (by assumption) ?_
          rotate_left
          · intro w hSw; (try dsimp only at hSw); go_simp; all_goals (with_reducible rfl)
          simp only [Act.put, List.setIfInBounds_toArray, List.set_cons_zero, List.set_cons_succ]
          refine wpAnyH_takeD (i := 5) (d := some 41) (v := ?_) rfl rfl (by kernel_rfl) (by kernel_rfl) (by kernel_rfl) (fun _ _ _ h => h) (Or.inl ⟨by rfl, ?_⟩) (by assumption) ?_
          rotate_left
          · intro w hSw; (try dsimp only at hSw); go_simp; all_goals (with_reducible rfl)
          simp only [Act.put, List.setIfInBounds_toArray, List.set_cons_zero, List.set_cons_succ]
          refine wpAnyH_takeD (i := 6) (d := some 42) (v := ?_) rfl rfl (by kernel_rfl) (by kernel_rfl) (by kernel_rfl) (fun _ _ _ h => h) (Or.inl ⟨by rfl, ?_⟩) (by assumption) ?_
          rotate_left
          · intro w hSw; (try dsimp only at hSw); go_simp; all_goals (with_reducible rfl)
          simp only [Act.put, List.setIfInBounds_toArray, List.set_cons_zero, List.set_cons_succ]
          refine wpAnyH_takeD (i := 7) (d := some 43) (v := ?_) rfl rfl (by kernel_rfl) (by kernel_rfl) (by kernel_rfl) (fun _ _ _ h => h) (Or.inl ⟨by rfl, ?_⟩) (by assumption) ?_
          rotate_left
          · intro w hSw; (try dsimp only at hSw); go_simp; all_goals (with_reducible rfl)
          simp only [Act.put, List.setIfInBounds_toArray, List.set_cons_zero, List.set_cons_succ]
          obtain ⟨n0, D0, hn0, hD0, hT0⟩ := HI4.out.tex
          have HEX := Lib.hid (extract_take c i hi)
          have hkey := WideMaps.keyOf_string_mk (P := Tryd.prog) Tryd.underlying9 (s := c.extract 0 i) (hsz _ (by rw [extract_size c i hi]; omega))
          rw [HEX.out] at hkey
          obtain ⟨x1, hrun0, _⟩ := look_text (w := wr.drew) hD0 hT0 (Maps.string_keyed Tryd.underlying9) Tryd.underlying67 Tryd.underlying9 (Tryd.zeroValue9 _) hkey
          refine wpAnyH_ready (rs := [8]) (by kernel_rfl) (by simp) ?_
          refine AllReadyH.cons (o := _) rfl (fun K hK => ?_) AllReadyH.nil
          clear hkey
          go_simp
          refine hK.out _ _ hHeld (fun hHeld => ?_)
          clear hK K
          try simp only [Act.put, List.setIfInBounds_toArray, List.set_cons_zero, List.set_cons_succ]
          refine wpAnyH_takeD (i := 9) (d := some 35) (v := ?_) rfl rfl (by kernel_rfl) (by kernel_rfl) (by kernel_rfl) (fun _ _ _ h => h) (Or.inl ⟨by rfl, ?_⟩) (by assumption) ?_
          rotate_left
          · intro w hSw; (try dsimp only at hSw); go_simp; all_goals (with_reducible rfl)
          simp only [Act.put, List.setIfInBounds_toArray, List.set_cons_zero, List.set_cons_succ]
          refine wpAnyH_takeD (i := 10) (d := some 45) (v := ?_) rfl rfl (by kernel_rfl) (by kernel_rfl) (by kernel_rfl) (fun _ _ _ h => h) (Or.inl ⟨by rfl, ?_⟩) (by assumption) ?_
          rotate_left
          · intro w hSw; (try dsimp only at hSw); go_simp; all_goals (with_reducible rfl)
          simp only [Act.put, List.setIfInBounds_toArray, List.set_cons_zero, List.set_cons_succ]
          refine wpAnyH_takeD (i := 11) (d := some 46) (v := ?_) rfl rfl (by kernel_rfl) (by kernel_rfl) (by kernel_rfl) (fun _ _ _ h => h) (Or.inl ⟨by rfl, ?_⟩) (by assumption) ?_
          rotate_left
          · intro w hSw; (try dsimp only at hSw); go_simp; all_goals (with_reducible rfl)
          simp only [Act.put, List.setIfInBounds_toArray, List.set_cons_zero, List.set_cons_succ]
          refine wpAnyH_takeD (i := 12) (d := some 8) (v := ?_) rfl rfl (by kernel_rfl) (by kernel_rfl) (by kernel_rfl) (fun _ _ _ h => h) (Or.inl ⟨by rfl, ?_⟩) (by assumption) ?_
          rotate_left
          · intro w hSw; (try dsimp only at hSw); go_simp; all_goals (with_reducible rfl)
          simp only [Act.put, List.setIfInBounds_toArray, List.set_cons_zero, List.set_cons_succ]
          refine wpAnyH_takeD (i := 13) (d := some 9) (v := ?_) rfl rfl (by kernel_rfl) (by kernel_rfl) (by kernel_rfl) (fun _ _ _ h => h) (Or.inl ⟨by rfl, ?_⟩) (by assumption) ?_
          rotate_left
          · intro w hSw; (try dsimp only at hSw); go_simp; all_goals (with_reducible rfl)
          simp only [Act.put, List.setIfInBounds_toArray, List.set_cons_zero, List.set_cons_succ]
          refine wpAnyH_done (by kernel_rfl) ?_ _
          clear hrun0 hD0 hT0 hn0 d0 d1 hHeld
          cases hl1 : (lookT ps (c.data.toList.take i)).isSome with
          | true =>
            have HNOK := Lib.hid (show ¬ DecOk ps c.data.toList from fun h => by
              have := h.2.2 i (by have := size_toList c; omega)
              rw [this] at hl1; cases hl1)
            clear hl1
            go_wp2
            go_ret
            exact ⟨_, rfl, .inr ⟨by decide, HNOK.out⟩, Keep.of_below HB4.out.drew hrb.symm⟩
          | false =>
            have HL2 := Lib.hid (show lookT ps (c.data.toList.take i) = none by cases h : lookT ps (c.data.toList.take i) with | none => rfl | some x => rw [h] at hl1; cases hl1)
            clear hl1
            go_wp2
            go_roundw
            case rel =>
              refine ⟨i + 1, by omega, by go_num, HI4.out.drew, HX4.out, HB4.out.drew, fun j hj => ?_⟩
              by_cases e : j = i
              · rw [e]; exact HL2.out
              · exact HNO.out j (by omega)
            case measure => simp [intOf]; omega
        · have i1 : ¬ (i : Int) < (c.size : Int) := by omega
          have hic : i = c.size := by omega
          have HOK := Lib.hid (show DecOk ps c.data.toList from ⟨HL1.out, HYB.out.symm, fun j hj => HNO.out j (by have := size_toList c; omega)⟩)
          have d0 : wr.cell? ⟨cb, 3, none⟩ = some (.map (some tm)) := by have := HI4.out.blk.cell 3; simpa using this
          have d1 : wr.cell? ⟨rb, 0, none⟩ = some (.string c) := by have := HX4.out.cell 0; simpa using this
          have d2 : wr.cell? ⟨rb, 1, none⟩ = some (.string t) := by have := HX4.out.cell 1; simpa using this
          clear hic HNO HYB HL1
          go_wp2_with fail
          have hS0 : wr.drew.cell? ⟨cb, 3, none⟩ = some (.map (some tm)) ∧ wr.drew.cell? ⟨rb, 0, none⟩ = some (.string c) ∧ wr.drew.cell? ⟨rb, 1, none⟩ = some (.string t) := ⟨d0, d1, d2⟩
          refine wp_region_held_drew (S := fun w' => w'.cell? ⟨cb, 3, none⟩ = some (.map (some tm)) ∧ w'.cell? ⟨rb, 0, none⟩ = some (.string c) ∧ w'.cell? ⟨rb, 1, none⟩ = some (.string t)) (by kernel_rfl) hS0 (fun hHeld => ?_)
          clear hS0 d0 d1 d2
          refine wpAnyH_takeD (i := 0) (d := some 49) (v := ?_) rfl rfl (by kernel_rfl) (by kernel_rfl) (by kernel_rfl) (fun _ _ _ h => h) (Or.inl ⟨by rfl, ?_⟩) (by assumption) ?_
          rotate_left
          · intro w hSw; (try dsimp only at hSw); go_simp; all_goals (with_reducible rfl)
          simp only [Act.put, List.setIfInBounds_toArray, List.set_cons_zero, List.set_cons_succ]
          refine wpAnyH_takeD (i := 1) (d := some 50) (v := ?_) rfl rfl (by kernel_rfl) (by kernel_rfl) (by kernel_rfl) (fun _ _ _ h => h) (Or.inl ⟨by rfl, ?_⟩) (by assumption) ?_
          rotate_left
          · intro w hSw; (try dsimp only at hSw); go_simp; all_goals (with_reducible rfl)
          simp only [Act.put, List.setIfInBounds_toArray, List.set_cons_zero, List.set_cons_succ]
          refine wpAnyH_takeD (i := 2) (d := some 51) (v := ?_) rfl rfl (by kernel_rfl) (by kernel_rfl) (by kernel_rfl) (fun _ _ _ h => h) (Or.inl ⟨by rfl, ?_⟩) (by assumption) ?_
          rotate_left
          · intro w hSw; (try dsimp only at hSw); go_simp; all_goals (with_reducible rfl)
          simp only [Act.put, List.setIfInBounds_toArray, List.set_cons_zero, List.set_cons_succ]
          refine wpAnyH_takeD (i := 3) (d := some 52) (v := ?_) rfl rfl (by kernel_rfl) (by kernel_rfl) (by kernel_rfl) (fun _ _ _ h => h) (Or.inl ⟨by rfl, ?_⟩) (by assumption) ?_
          rotate_left
          · intro w hSw; (try dsimp only at hSw); go_simp; all_goals (with_reducible rfl)
          simp only [Act.put, List.setIfInBounds_toArray, List.set_cons_zero, List.set_cons_succ]
          refine wpAnyH_takeD (i := 4) (d := some 53) (v := ?_) rfl rfl (by kernel_rfl) (by kernel_rfl) (by kernel_rfl) (fun _ _ _ h => h) (Or.inl ⟨by rfl, ?_⟩) (by assumption) ?_
          rotate_left
          · intro w hSw; (try dsimp only at hSw); go_simp; all_goals (with_reducible rfl)
          simp only [Act.put, List.setIfInBounds_toArray, List.set_cons_zero, List.set_cons_succ]
          refine wpAnyH_takeD (i := 5) (d := some 54) (v := ?_) rfl rfl (by kernel_rfl) (by kernel_rfl) (by kernel_rfl) (fun _ _ _ h => h) (Or.inl ⟨by rfl, ?_⟩) (by assumption) ?_
          rotate_left
          · intro w hSw; (try dsimp only at hSw); go_simp; all_goals (with_reducible rfl)
          simp only [Act.put, List.setIfInBounds_toArray, List.set_cons_zero, List.set_cons_succ]
          refine wpAnyH_takeD (i := 6) (d := some 55) (v := ?_) rfl rfl (by kernel_rfl) (by kernel_rfl) (by kernel_rfl) (fun _ _ _ h => h) (Or.inl ⟨by rfl, ?_⟩) (by assumption) ?_
          rotate_left
          · intro w hSw; (try dsimp only at hSw); go_simp; all_goals (with_reducible rfl)
          simp only [Act.put, List.setIfInBounds_toArray, List.set_cons_zero, List.set_cons_succ]
          refine wpAnyH_takeD (i := 7) (d := some 56) (v := ?_) rfl rfl (by kernel_rfl) (by kernel_rfl) (by kernel_rfl) (fun _ _ _ h => h) (Or.inl ⟨by rfl, ?_⟩) (by assumption) ?_
          rotate_left
          · intro w hSw; (try dsimp only at hSw); go_simp; all_goals (with_reducible rfl)
          simp only [Act.put, List.setIfInBounds_toArray, List.set_cons_zero, List.set_cons_succ]
          have HI5 := Lib.hid HI4.out.drew
          have HX5 := Lib.hid (show Blk wr.drew rb _ _ from HX4.out)
          have HB5 := Lib.hid HB4.out.drew
          obtain ⟨W5, hW5⟩ : ∃ W, wr.drew = W := ⟨_, rfl⟩
          rw [hW5] at HI5 HX5 HB5 hHeld ⊢
          clear hW5 HI4 HX4 HB4
          obtain ⟨n0, D0, hn0, hD0, hT0⟩ := HI5.out.tex
          obtain ⟨W6, hrun6, hm6, hg6⟩ := hD0.update (Maps.string_keyed Tryd.underlying9) Tryd.underlying67 (by unfold maxLen; omega) HKEY.out (plainElem_string (H := Unit) Tryd.underlying9 (hsz t ht))
          have hT6 := hT0.put (p := (c, t)) hD0.isMap HOK.out.1
          have HI6 := Lib.hid (HI5.out.texPut hg6 hm6 (by omega) hT6)
          have hrt : rb ≠ tm ∧ rb ≠ hm := by omega
          have HX6 := Lib.hid (HX5.out.grown hg6 (by simp; omega))
          have hk6 : Keep (fun j => j = tm ∨ j = hm) w W6 := (Keep.of_below HB5.out hrb.symm).trans ((Keep.of_grown hg6).weaken (fun j _ e => by left; exact (Option.some.inj e).symm)) (fun _ _ h => h)
          have HK6 := Lib.hid hk6; clear hk6
          clear hm6 hT6 hT0 hD0 hn0
          refine wpAnyH_ready (rs := [8]) (by kernel_rfl) (by simp) ?_
          refine AllReadyH.cons (o := _) rfl (fun K hK => ?_) AllReadyH.nil
          go_simp
          have e0 : W6.cell? ⟨cb, 3, none⟩ = some (.map (some tm)) := by have := HI6.out.blk.cell 3; simpa using this
          have e1 : W6.cell? ⟨rb, 0, none⟩ = some (.string c) := by have := HX6.out.cell 0; simpa using this
          have e2 : W6.cell? ⟨rb, 1, none⟩ = some (.string t) := by have := HX6.out.cell 1; simpa using this
          refine hK.out _ _ ⟨e0, e1, e2⟩ (fun hHeld => ?_)
          clear hK K hrun6 hg6 e0 e1 e2 hHeld HI5 HX5 HB5
          try simp only [Act.put, List.setIfInBounds_toArray, List.set_cons_zero, List.set_cons_succ]
          refine wpAnyH_done (by kernel_rfl) ?_ _
          have e1 : W6.cell? ⟨rb, 0, none⟩ = some (.string c) := by have := HX6.out.cell 0; simpa using this
          go_wp2_with fail
          go_loopw [60] (fun s60 wr => ∃ i : Nat, i ≤ c.size ∧ s60 = .int .i64 i ∧ CsI cb tm hm c0 c1 c2 c5 c6 (ps ++ [(c, t)]) (fun s => headB ps s || decide (∃ j, j < i ∧ s = c.data.toList.take j)) (B + 1 + i) wr ∧ Blk wr rb #[.string c, .string t, .int .i64 fl] 47 ∧ Keep (fun j => j = tm ∨ j = hm) w wr) (fun s60 _ => c.size - (intOf s60).toNat)
          case atStart => exact ⟨0, Nat.zero_le _, rfl, HI6.out.weak (by omega) (fun s => by simp), HX6.out, HK6.out⟩
          case round =>
            obtain ⟨i2, hi2, rfl, hI7, hX7, hK7⟩ := hrel
            have HI7 := Lib.hid hI7; clear hI7
            have HX7 := Lib.hid hX7; clear hX7
            have HK7 := Lib.hid hK7; clear hK7
            clear e1
            by_cases hlt2 : i2 < c.size
            · have j0 : (0 : Int) ≤ (i2 : Int) := by omega
              have j1 : (i2 : Int) < (c.size : Int) := by omega
              have j2 : (i2 : Int) ≤ (c.size : Int) := by omega
              have d0 : wr.cell? ⟨cb, 4, none⟩ = some (.map (some hm)) := by have := HI7.out.blk.cell 4; simpa using this
              have d1 : wr.cell? ⟨rb, 0, none⟩ = some (.string c) := by have := HX7.out.cell 0; simpa using this
              go_wp2_with fail
              have hS0 : wr.drew.cell? ⟨cb, 4, none⟩ = some (.map (some hm)) ∧ wr.drew.cell? ⟨rb, 0, none⟩ = some (.string c) := ⟨d0, d1⟩
              refine wp_region_held_drew (S := fun w' => w'.cell? ⟨cb, 4, none⟩ = some (.map (some hm)) ∧ w'.cell? ⟨rb, 0, none⟩ = some (.string c)) (by kernel_rfl) hS0 (fun hHeld => ?_)
              clear hS0 d0 d1
              refine wpAnyH_takeD (i := 0) (d := some 63) (v := ?_) rfl rfl (by kernel_rfl) (by kernel_rfl) (by kernel_rfl) (fun _ _ _ h => h) (Or.inl ⟨by rfl, ?_⟩) (by assumption) ?_
              rotate_left
              · intro w hSw; (try dsimp only at hSw); go_simp; all_goals (with_reducible rfl)
              simp only [Act.put, List.setIfInBounds_toArray, List.set_cons_zero, List.set_cons_succ]
              refine wpAnyH_takeD (i := 1) (d := some 64) (v := ?_) rfl rfl (by kernel_rfl) (by kernel_rfl) (by kernel_rfl) (fun _ _ _ h => h) (Or.inl ⟨by rfl, ?_⟩) (by assumption) ?_
              rotate_left
              · intro w hSw; (try dsimp only at hSw); go_simp; all_goals (with_reducible rfl)
              simp only [Act.put, List.setIfInBounds_toArray, List.set_cons_zero, List.set_cons_succ]
              refine wpAnyH_takeD (i := 2) (d := some 65) (v := ?_) rfl rfl (by kernel_rfl) (by kernel_rfl) (by kernel_rfl) (fun _ _ _ h => h) (Or.inl ⟨by rfl, ?_⟩) (by assumption) ?_
              rotate_left
              · intro w hSw; (try dsimp only at hSw); go_simp; all_goals (with_reducible rfl)
              simp only [Act.put, List.setIfInBounds_toArray, List.set_cons_zero, List.set_cons_succ]
              refine wpAnyH_takeD (i := 3) (d := some 66) (v := ?_) rfl rfl (by kernel_rfl) (by kernel_rfl) (by kernel_rfl) (fun _ _ _ h => h) (Or.inl ⟨by rfl, ?_⟩) (by assumption) ?_
              rotate_left
              · intro w hSw; (try dsimp only at hSw); go_simp; all_goals (with_reducible rfl)
              simp only [Act.put, List.setIfInBounds_toArray, List.set_cons_zero, List.set_cons_succ]
              refine wpAnyH_takeD (i := 4) (d := some 67) (v := ?_) rfl rfl (by kernel_rfl) (by kernel_rfl) (by kernel_rfl) (fun _ _ _ h => h) (Or.inl ⟨by rfl, ?_⟩) (by assumption) ?_
              rotate_left
              · intro w hSw; (try dsimp only at hSw); go_simp; all_goals (with_reducible rfl)
              simp only [Act.put, List.setIfInBounds_toArray, List.set_cons_zero, List.set_cons_succ]
              refine wpAnyH_takeD (i := 5) (d := some 68) (v := ?_) rfl rfl (by kernel_rfl) (by kernel_rfl) (by kernel_rfl) (fun _ _ _ h => h) (Or.inl ⟨by rfl, ?_⟩) (by assumption) ?_
              rotate_left
              · intro w hSw; (try dsimp only at hSw); go_simp; all_goals (with_reducible rfl)
              simp only [Act.put, List.setIfInBounds_toArray, List.set_cons_zero, List.set_cons_succ]
              refine wpAnyH_takeD (i := 6) (d := some 69) (v := ?_) rfl rfl (by kernel_rfl) (by kernel_rfl) (by kernel_rfl) (fun _ _ _ h => h) (Or.inl ⟨by rfl, ?_⟩) (by assumption) ?_
              rotate_left
              · intro w hSw; (try dsimp only at hSw); go_simp; all_goals (with_reducible rfl)
              simp only [Act.put, List.setIfInBounds_toArray, List.set_cons_zero, List.set_cons_succ]
              refine wpAnyH_takeD (i := 7) (d := some 70) (v := ?_) rfl rfl (by kernel_rfl) (by kernel_rfl) (by kernel_rfl) (fun _ _ _ h => h) (Or.inl ⟨by rfl, ?_⟩) (by assumption) ?_
              rotate_left
              · intro w hSw; (try dsimp only at hSw); go_simp; all_goals (with_reducible rfl)
              simp only [Act.put, List.setIfInBounds_toArray, List.set_cons_zero, List.set_cons_succ]
              have HI8 := Lib.hid HI7.out.drew
              have HX8 := Lib.hid (show Blk wr.drew rb _ _ from HX7.out)
              have HK8 := Lib.hid (HK7.out.trans (Keep.of_drew _ wr) (fun _ _ h => h))
              obtain ⟨W8, hW8⟩ : ∃ W, wr.drew = W := ⟨_, rfl⟩
              rw [hW8] at HI8 HX8 HK8 hHeld ⊢
              clear hW8 HI7 HX7 HK7
              obtain ⟨n0, D0, hn0, hD0, hT0⟩ := HI8.out.hea
              have HEX := Lib.hid (extract_take c i2 hi2)
              have hkey := WideMaps.keyOf_string_mk (P := Tryd.prog) Tryd.underlying9 (s := c.extract 0 i2) (hsz _ (by rw [extract_size c i2 hi2]; omega))
              rw [HEX.out] at hkey
              obtain ⟨W9, hrun9, hm9, hg9⟩ := hD0.update (Maps.string_keyed Tryd.underlying9) Tryd.underlying68 (by unfold maxLen; omega) hkey (plainElem_bool (H := Unit) Tryd.underlying4 true)
              have hT9 := hT0.put hD0.isMap (c.data.toList.take i2)
              have HI9 := Lib.hid (HI8.out.heaPut hg9 hm9 (by omega) hT9)
              have HX9 := Lib.hid (HX8.out.grown hg9 (by simp; omega))
              have HK9 := Lib.hid (HK8.out.trans ((Keep.of_grown hg9).weaken (S' := fun j => j = tm ∨ j = hm) (fun j _ e => by right; exact (Option.some.inj e).symm)) (fun _ _ h => h))
              clear hm9 hT9 hT0 hD0 hn0 hkey
              refine wpAnyH_ready (rs := [8]) (by kernel_rfl) (by simp) ?_
              refine AllReadyH.cons (o := _) rfl (fun K hK => ?_) AllReadyH.nil
              go_simp
              have e0 : W9.cell? ⟨cb, 4, none⟩ = some (.map (some hm)) := by have := HI9.out.blk.cell 4; simpa using this
              have e1 : W9.cell? ⟨rb, 0, none⟩ = some (.string c) := by have := HX9.out.cell 0; simpa using this
              refine hK.out _ _ ⟨e0, e1⟩ (fun hHeld => ?_)
              clear hK K hrun9 hg9 e0 e1 hHeld HI8 HX8 HK8
              try simp only [Act.put, List.setIfInBounds_toArray, List.set_cons_zero, List.set_cons_succ]
              refine wpAnyH_done (by kernel_rfl) ?_ _
              go_wp2
              go_roundw
              case rel =>
                refine ⟨i2 + 1, by omega, by go_num, HI9.out.weak (by omega) (fun s => ?_), HX9.out, HK9.out⟩
                rw [Bool.eq_iff_iff]
                simp only [Bool.or_eq_true, decide_eq_true_eq]
                constructor
                · rintro ((h | ⟨j, h1, h2⟩) | h)
                  · exact .inl h
                  · exact .inr ⟨j, by omega, h2⟩
                  · exact .inr ⟨i2, by omega, h⟩
                · rintro (h | ⟨j, h1, h2⟩)
                  · exact .inl (.inl h)
                  · by_cases e : j = i2
                    · exact .inr (by rw [← e]; exact h2)
                    · exact .inl (.inr ⟨j, by omega, h2⟩)
              case measure => simp [intOf]; omega
            · have j1 : ¬ (i2 : Int) < (c.size : Int) := by omega
              have hic : i2 = c.size := by omega
              go_wp2
              go_ret
              refine ⟨_, rfl, .inl ⟨rfl, HOK.out, HI7.out.weak (by omega) (fun s => ?_)⟩, HK7.out⟩
              rw [headB_snoc, hic, size_toList]

end Go.Proofs.YtplobpelhcagpaaDoor
