/-
  Multi: rows: their clones; which is better.
-/
import Derived.Test.YtplobpelhcagpaaDoorMsN
namespace Go.Proofs.YtplobpelhcagpaaDoor
open Go.RowKit Go.Shelf Pl14

/-- a row: code, text, flag -/
abbrev MRow := ByteArray × ByteArray × Int
def rowC (r : MRow) : List Value := [.string r.1, .string r.2.1, .int .i64 r.2.2]
def rowsC (rs : List MRow) : List Value := rs.flatMap rowC
theorem rowsC_len (rs : List MRow) : (rowsC rs).length = 3 * rs.length := by
  induction rs with
  | nil => rfl
  | cons x rs ih =>
    show ([_, _, _] ++ rowsC rs).length = _
    rw [List.length_append, ih]; simp; omega
theorem flat_at {α : Type} (f : α → List Value) (m : Nat) (hf : ∀ x, (f x).length = m) : ∀ (xs : List α) (j c : Nat) (hj : j < xs.length), c < m → (xs.flatMap f)[m * j + c]? = (f xs[j])[c]? := by
  intro xs
  induction xs with
  | nil => intro j c hj; simp at hj
  | cons x xs ih =>
    intro j c hj hc
    show (f x ++ xs.flatMap f)[_]? = _
    cases j with
    | zero => rw [List.getElem?_append_left (by rw [hf]; omega)]; simp
    | succ j =>
      rw [List.getElem?_append_right (by rw [hf]; have : m * (j + 1) = m * j + m := Nat.mul_succ m j; omega), hf]
      have e : m * (j + 1) + c - m = m * j + c := by have : m * (j + 1) = m * j + m := Nat.mul_succ m j; omega
      rw [e, ih j c (by simpa using hj) hc]
      simp
def mr0 : MRow := (⟨#[]⟩, ⟨#[]⟩, 0)
theorem rowsC_at (rs : List MRow) (j c : Nat) (hj : j < rs.length) (hc : c < 3) : (rowsC rs)[3 * j + c]? = (rowC (rs.getD j mr0))[c]? := by
  have e : rs.getD j mr0 = rs[j] := by simp [List.getD_eq_getElem?_getD, hj]
  rw [e]
  exact flat_at rowC 3 (fun _ => rfl) rs j c hj hc
/-- rows that a slice holds, read -/
def RdM (w : World) (v : Value) (rs : List MRow) : Prop :=
  ∃ a cap, v = .slice a rs.length cap ∧ rs.length ≤ cap ∧ cap ≤ 9223372036854775807 ∧ (a = none → rs = []) ∧
    (rs = [] ∨ ∃ b off, a = some ⟨b, off, none⟩ ∧ ∀ k u, (rowsC rs)[k]? = some u → w.cell? ⟨b, off + k, none⟩ = some u)
theorem RdM.mono {w w' : World} {v : Value} {rs : List MRow} (h : RdM w v rs) {B : Nat} (hb : Below B w w') (hB : B = w.heap.size) : RdM w' v rs := by
  obtain ⟨a, cap, hv, h1, h2, h0, h3⟩ := h
  refine ⟨a, cap, hv, h1, h2, h0, ?_⟩
  rcases h3 with h3 | ⟨b, off, ha, hc⟩
  · exact .inl h3
  · exact .inr ⟨b, off, ha, fun k u hk => (hb.cell (p := ⟨b, off + k, none⟩) (by show b < B; rw [hB]; exact cell_lt (hc k u hk))).trans (hc k u hk)⟩
/-- rows whose cells lie below N -/
def RdMN (N : Nat) (w : World) (v : Value) (rs : List MRow) : Prop := RdM w v rs ∧ ∀ j, v.ownBlock = some j → j < N
theorem RdMN.below {w w' : World} {v : Value} {rs : List MRow} {N : Nat} (h : RdMN N w v rs) (hb : Below N w w') : RdMN N w' v rs := by
  obtain ⟨⟨a, cap, hv, h1, h2, h0, h3⟩, hN⟩ := h
  refine ⟨⟨a, cap, hv, h1, h2, h0, ?_⟩, hN⟩
  rcases h3 with h3 | ⟨b, off, ha, hc⟩
  · exact .inl h3
  · exact .inr ⟨b, off, ha, fun k u hk => (hb.cell (p := ⟨b, off + k, none⟩) (by show b < N; exact hN b (by rw [hv, ha]; rfl))).trans (hc k u hk)⟩
theorem RdM.cells {w : World} {b off n cap : Nat} {rs : List MRow} (h : RdM w (.slice (some ⟨b, off, none⟩) n cap) rs) {j : Nat} (hj : j < rs.length) :
    w.cell? ⟨b, off + j * 3, none⟩ = some (.string (rs.getD j mr0).1) ∧ w.cell? ⟨b, off + j * 3 + 1, none⟩ = some (.string (rs.getD j mr0).2.1) ∧ w.cell? ⟨b, off + j * 3 + 2, none⟩ = some (.int .i64 (rs.getD j mr0).2.2) := by
  obtain ⟨a, cap', hv, h1, h2, h0, h3⟩ := h
  cases hv
  rcases h3 with h3 | ⟨b', off', ha, hc⟩
  · rw [h3] at hj; simp at hj
  · cases ha
    refine ⟨?_, ?_, ?_⟩
    · have := hc (3 * j + 0) _ (rowsC_at rs j 0 hj (by decide)); rw [show off + j * 3 = off + (3 * j + 0) by omega]; exact this
    · have := hc (3 * j + 1) _ (rowsC_at rs j 1 hj (by decide)); rw [show off + j * 3 + 1 = off + (3 * j + 1) by omega]; exact this
    · have := hc (3 * j + 2) _ (rowsC_at rs j 2 hj (by decide)); rw [show off + j * 3 + 2 = off + (3 * j + 2) by omega]; exact this

theorem rowE : ElemN Tryd.prog 22 47 (.agg #[.string ⟨#[]⟩, .string ⟨#[]⟩, .int .i64 0]) 3 40 := ElemN.mk' Tryd.underlying22 rfl (by decide) (by kernel_rfl)
theorem rowsC_one (rs : List MRow) : ∀ u ∈ rowsC rs, u.oneCell' = true := by
  intro u hu
  obtain ⟨r, _, hr⟩ := List.mem_flatMap.1 hu
  simp [rowC] at hr
  rcases hr with rfl | rfl | rfl <;> rfl

theorem run_appM (B : Nat) (w : World) (v vx : Value) (n : Nat) (xs : List Value) (rs : List MRow) (h : w.ownsRow B 47 3 v n xs) (hx : RdM w vx rs) (hn : n + rs.length ≤ 1000000000) (hB : B ≤ w.heap.size) :
    ∃ v' w', (Builtin.append_ #[22, 22] 22 #[v, vx]).run Tryd.prog w = .ok v' w' ∧ w'.ownsRow B 47 3 v' (n + rs.length) (xs ++ rowsC rs) ∧ w.grownBy w' v.ownBlock := by
  obtain ⟨i, hi, hz, hsz, hby⟩ := rowE.hi
  obtain ⟨a, cap, rfl, h1, h2, h0, h3⟩ := hx
  rcases h3 with rfl | ⟨b, off, rfl, hc⟩
  · cases a with
    | none =>
      by_cases hc0 : cap = 0
      · subst hc0
        exact ⟨v, w, run_append_owned_none (P := Tryd.prog) w B _ _ _ i 3 rowE.ht hi v _ _ h, by simpa [rowsC] using h, ⟨rfl, rfl, rfl, Nat.le_refl _, fun _ _ _ => rfl⟩⟩
      · refine ⟨v, w, ?_, by simpa [rowsC] using h, ⟨rfl, rfl, rfl, Nat.le_refl _, fun _ _ _ => rfl⟩⟩
        rcases h.2 with ⟨rfl, rfl⟩ | ⟨g, cap', cur, rfl, _, _, hnc, _⟩
        · simp [Builtin.append_, run_underlying rowE.ht, sizeOf, typeInfo, hi, Builtin.lenOf, Builtin.firstCells]
        · simp [Builtin.append_, run_underlying rowE.ht, sizeOf, typeInfo, hi, Builtin.lenOf, Builtin.firstCells, hnc, storeCells]
    | some ad =>
      obtain ⟨v', w', hr, ho, hg, _⟩ := run_append_own (P := Tryd.prog) w B 22 22 47 i _ 3 40 rowE.ht hi hz hsz hby rowE.hz rowE.hs v n xs h ad 0 cap [] (by simp) (by simp) (by simp) (by unfold maxLen; omega) (by simp at hn ⊢; omega) hB
      exact ⟨v', w', hr, by simpa [rowsC] using ho, hg⟩
  · obtain ⟨v', w', hr, ho, hg, _⟩ := run_append_own (P := Tryd.prog) w B 22 22 47 i _ 3 40 rowE.ht hi hz hsz hby rowE.hz rowE.hs v n xs h ⟨b, off, none⟩ rs.length cap (rowsC rs) (by rw [rowsC_len]; omega)
      (fun j u hu => by
        have e : (⟨b, off, none⟩ : Addr).add j = ⟨b, off + j, none⟩ := by unfold Addr.add; split <;> simp_all
        rw [e]; exact hc j u hu) (rowsC_one rs) (by unfold maxLen; omega) (by omega) hB
    exact ⟨v', w', hr, ho, hg⟩

theorem wpList_appG {w w' : World} {ops : Array Oper} {rest : List Oper} {o : Oper} {a : Act} {Q : Exit → Act → World → Prop} {t : TypeId} (hgd : o.guard = none) (s x : Operand) (ho : o.op = .call { callee := .builtin .append, args := #[s, x], argTypes := #[t, t] }) (hty : o.type = t) {v vx v' : Value} (hs : a.eval s = v) (hx : a.eval x = vx)
    (hr : (Builtin.append_ #[t, t] t #[v, vx]).run Tryd.prog w = .ok v' w') (h : wpList Tryd.prog ops Q rest (a.put o.dst v') w') : wpList Tryd.prog ops Q (o :: rest) a w := by
  refine wpList_plain hgd fun K hK => ?_
  rw [← hty] at hr
  unfold Oper.wp execOp
  simp only [ho, resolve, invoke, builtin, Sem.run_bind, Sem.run_pure, Result.andThen_ok, List.map_toArray, List.map_cons, List.map_nil, hs, hx]
  rw [hty] at hr ⊢
  simp only [hr]
  exact hK _ _ h

/-- a slice's rows, or nothing: what a clone of rows is -/
def OwnM (B : Nat) (w : World) (v : Value) (rs : List MRow) : Prop := w.ownsRow B 47 3 v rs.length (rowsC rs)
theorem OwnM.rd {B : Nat} {w : World} {v : Value} {rs : List MRow} (h : OwnM B w v rs) : RdM w v rs := by
  obtain ⟨a, cap, rfl, h1, h2, h3⟩ := ownsRow_shapeN h
  rcases h3 with ⟨rfl, rfl, h0⟩ | ⟨g, rfl, _⟩
  · have : rs = [] := List.eq_nil_of_length_eq_zero h0
    exact ⟨none, 0, rfl, h1, h2, fun _ => this, .inl this⟩
  · refine ⟨_, cap, rfl, h1, h2, (fun h => by cases h), .inr ⟨g, 0, rfl, fun k u hk => ?_⟩⟩
    have := World.ownsRow.cells h (g := g) rfl k u hk
    have e : (⟨g, 0, none⟩ : Addr).add k = ⟨g, 0 + k, none⟩ := by unfold Addr.add; split <;> simp_all
    rw [e] at this; exact this
set_option maxHeartbeats 2000000 in
theorem cloneM_any (vl : Value) (rs : List MRow) (w : World) (hl : RdM w vl rs) (hsz : rs.length ≤ 1000000) :
    Calls Tryd.prog 27 #[vl] w fun e w' => ∃ out, e = .returned out ∧ OwnM w.heap.size w' out rs ∧ Below w.heap.size w w' := by
  obtain ⟨a, ca, hvl, hnil⟩ : ∃ a c, vl = .slice a rs.length c ∧ (a = none → rs = []) := by obtain ⟨a, c, h, _, _, h0, _⟩ := hl; exact ⟨a, c, h, h0⟩
  have he := fun w a l c => Lib.run_eql_slice_nil (P := Tryd.prog) w 22 47 a l c 0 0 Tryd.underlying22
  subst hvl
  cases a with
  | none =>
    have := hnil rfl
    subst this
    go_enter Tryd.func27, Tryd.ntmps27
    go_wp2
    go_ret
    exact ⟨_, rfl, World.ownsRow_nil _ _ _ _, Below.refl _ _⟩
  | some a =>
    have HL := Lib.hid hl; clear hl hnil
    go_enter Tryd.func27, Tryd.ntmps27
    have hO : (w.alloc (.cells #[] 47)).ownsRow w.heap.size 47 3 (.slice (some ⟨w.heap.size, 0, none⟩) 0 0) 0 [] := World.ownsRow_made w #[] 0 (Nat.le_refl _) (by simp) rfl
    have hb0 : Below w.heap.size w (w.alloc (.cells #[] 47)) := (Below.refl _ _).alloc (Nat.le_refl _) _
    obtain ⟨v', w1, hap, ho1, hg1⟩ := run_appM w.heap.size _ _ _ 0 [] rs hO (HL.out.mono hb0 rfl) (by omega) hb0.size
    have HAP := Lib.hid hap; clear hap
    go_wp2_with (at_builtin; refine wpList_appG rfl _ _ rfl rfl rfl rfl HAP.out ?_)
    go_wp2
    go_ret
    exact ⟨_, rfl, by simpa [OwnM] using ho1, hb0.grown hg1 hb0.size (fun j hj => (World.ownsRow.lt hO j hj).1)⟩

/-- some number, some answer -/
def AnInt (e : Ending) : Prop := ∃ r, e = .returned (.int .i64 r)
def ABool (e : Ending) : Prop := ∃ b, e = .returned (.bool b)

set_option maxRecDepth 100000 in
set_option maxHeartbeats 2000000 in
theorem or_any (a : Nat) (x y z : Int) (w : World) (h : Blk w a #[.int .i64 x, .int .i64 y, .int .i64 z] 3) :
    Calls Tryd.prog 44 #[.slice (some ⟨a, 0, none⟩) 3 3] w fun e w' => AnInt e ∧ Below w.heap.size w w' := by
  have c0 : w.cell? ⟨a, 0, none⟩ = some (.int .i64 x) := by have := h.cell 0; simpa using this
  have c1 : w.cell? ⟨a, 1, none⟩ = some (.int .i64 y) := by have := h.cell 1; simpa using this
  have c2 : w.cell? ⟨a, 2, none⟩ = some (.int .i64 z) := by have := h.cell 2; simpa using this
  clear h
  go_enter Tryd.func44, Tryd.ntmps44
  go_wp2
  go_loopw [8] (fun i wr => ∃ k : Nat, k ≤ 3 ∧ i = .int .i64 k ∧ w = wr) (fun i _ => 3 - (intOf i).toNat)
  case atStart => exact ⟨0, by omega, rfl, rfl⟩
  case round =>
    obtain ⟨k, hk, rfl, rfl⟩ := hrel
    have hkk : k = 0 ∨ k = 1 ∨ k = 2 ∨ k = 3 := by omega
    have key : ∀ v : Int, k < 3 → w.cell? ⟨a, k, none⟩ = some (.int .i64 v) → True := fun _ _ _ => trivial
    clear key
    by_cases hlt : k < 3
    · obtain ⟨v, hv⟩ : ∃ v, w.cell? ⟨a, k, none⟩ = some (.int .i64 v) := by
        rcases hkk with rfl | rfl | rfl | rfl
        · exact ⟨_, c0⟩
        · exact ⟨_, c1⟩
        · exact ⟨_, c2⟩
        · omega
      have i1 : (k : Int) < 3 := by omega
      have i0 : (0 : Int) ≤ (k : Int) := by omega
      clear c0 c1 c2 hkk
      by_cases hv0 : v = 0
      · have e0 : (v != 0) = false := by simp [hv0]
        clear hv0
        go_wp2
        go_roundw
        case rel => exact ⟨k + 1, by omega, by go_num, by simp⟩
        case measure => simp [intOf]; omega
      · have e0 : (v != 0) = true := by simp [hv0]
        clear hv0
        go_wp2
        go_ret
        exact ⟨⟨_, rfl⟩, Below.refl _ _⟩
    · have i1 : ¬ (k : Int) < 3 := by omega
      clear c0 c1 c2 hkk
      go_wp2
      go_ret
      exact ⟨⟨_, rfl⟩, Below.refl _ _⟩

set_option maxRecDepth 100000 in
set_option maxHeartbeats 4000000 in
theorem better_any (c t c' t' : ByteArray) (f f' : Int) (w : World) :
    Calls Tryd.prog 29 #[rowV c t f, rowV c' t' f'] w fun e w' => ABool e ∧ Below w.heap.size w w' := by
  unfold rowV
  go_enter Tryd.func29, Tryd.ntmps29
  have hcm := Sh_cmp_Compare_int f f'
  have hcs := Sh_strings_Compare c c'
  obtain ⟨W1, hW1⟩ : ∃ W, (w.alloc (.cells #[.string c, .string t, .int .i64 f] 47)).alloc (.cells #[.string c', .string t', .int .i64 f'] 47) = W := ⟨_, rfl⟩
  obtain ⟨b0, hb0⟩ : ∃ q, w.heap.size = q := ⟨_, rfl⟩
  have hx0 : Blk W1 b0 #[.string c, .string t, .int .i64 f] 47 := by rw [← hW1, ← hb0]; exact (Blk.new _ _ _).grown (World.grownBy_alloc _ _ none) (by simp)
  have hx1 : Blk W1 (b0 + 1) #[.string c', .string t', .int .i64 f'] 47 := by
    have := Blk.new (w.alloc (.cells #[.string c, .string t, .int .i64 f] 47)) #[.string c', .string t', .int .i64 f'] 47
    rw [hW1] at this
    simpa [hb0] using this
  have hbl : Below w.heap.size w W1 := by rw [← hW1]; exact ((Below.refl _ _).alloc (Nat.le_refl _) _).alloc (by simp) _
  have HX0 := Lib.hid hx0; clear hx0
  have HX1 := Lib.hid hx1; clear hx1
  have HB := Lib.hid hbl; clear hbl
  have HCS := Lib.hid hcs; clear hcs
  have HCM := Lib.hid hcm; clear hcm
  have c0 : W1.cell? ⟨b0, 0, none⟩ = some (.string c) := by have := HX0.out.cell 0; simpa using this
  have c2 : W1.cell? ⟨b0, 2, none⟩ = some (.int .i64 f) := by have := HX0.out.cell 2; simpa using this
  have c0' : W1.cell? ⟨b0 + 1, 0, none⟩ = some (.string c') := by have := HX1.out.cell 0; simpa using this
  have c2' : W1.cell? ⟨b0 + 1, 2, none⟩ = some (.int .i64 f') := by have := HX1.out.cell 2; simpa using this
  go_wp2_with fail
  refine (HCM.out _).mono ?_
  rintro e w' ⟨rfl, rfl⟩
  go_wp2_with fail
  have hS0 : w'.drew.cell? ⟨b0, 0, none⟩ = some (.string c) ∧ w'.drew.cell? ⟨b0 + 1, 0, none⟩ = some (.string c') := ⟨c0, c0'⟩
  refine wp_region_held_drew (S := fun w' => w'.cell? ⟨b0, 0, none⟩ = some (.string c) ∧ w'.cell? ⟨b0 + 1, 0, none⟩ = some (.string c')) (by kernel_rfl) hS0 (fun hHeld => ?_)
  clear hS0
  refine wpAnyH_takeD (i := 0) (d := some 11) (v := ?_) rfl rfl (by kernel_rfl) (by kernel_rfl) (by kernel_rfl) (fun _ _ _ h => h) (Or.inl ⟨by rfl, ?_⟩) (by assumption) ?_
  rotate_left
  · intro w hSw; (try dsimp only at hSw); go_simp; all_goals (with_reducible rfl)
  simp only [Act.put, List.setIfInBounds_toArray, List.set_cons_zero, List.set_cons_succ]
  refine wpAnyH_takeD (i := 1) (d := some 12) (v := ?_) rfl rfl (by kernel_rfl) (by kernel_rfl) (by kernel_rfl) (fun _ _ _ h => h) (Or.inl ⟨by rfl, ?_⟩) (by assumption) ?_
  rotate_left
  · intro w hSw; (try dsimp only at hSw); go_simp; all_goals (with_reducible rfl)
  simp only [Act.put, List.setIfInBounds_toArray, List.set_cons_zero, List.set_cons_succ]
  refine wpAnyH_takeD (i := 2) (d := some 13) (v := ?_) rfl rfl (by kernel_rfl) (by kernel_rfl) (by kernel_rfl) (fun _ _ _ h => h) (Or.inl ⟨by rfl, ?_⟩) (by assumption) ?_
  rotate_left
  · intro w hSw; (try dsimp only at hSw); go_simp; all_goals (with_reducible rfl)
  simp only [Act.put, List.setIfInBounds_toArray, List.set_cons_zero, List.set_cons_succ]
  refine wpAnyH_takeD (i := 3) (d := some 14) (v := ?_) rfl rfl (by kernel_rfl) (by kernel_rfl) (by kernel_rfl) (fun _ _ _ h => h) (Or.inl ⟨by rfl, ?_⟩) (by assumption) ?_
  rotate_left
  · intro w hSw; (try dsimp only at hSw); go_simp; all_goals (with_reducible rfl)
  simp only [Act.put, List.setIfInBounds_toArray, List.set_cons_zero, List.set_cons_succ]
  refine wpAnyH_takeD (i := 4) (d := some 15) (v := ?_) rfl rfl (by kernel_rfl) (by kernel_rfl) (by kernel_rfl) (fun _ _ _ h => h) (Or.inl ⟨by rfl, ?_⟩) (by assumption) ?_
  rotate_left
  · intro w hSw; (try dsimp only at hSw); go_simp; all_goals (with_reducible rfl)
  simp only [Act.put, List.setIfInBounds_toArray, List.set_cons_zero, List.set_cons_succ]
  refine wpAnyH_takeD (i := 5) (d := some 16) (v := ?_) rfl rfl (by kernel_rfl) (by kernel_rfl) (by kernel_rfl) (fun _ _ _ h => h) (Or.inl ⟨by rfl, ?_⟩) (by assumption) ?_
  rotate_left
  · intro w hSw; (try dsimp only at hSw); go_simp; all_goals (with_reducible rfl)
  simp only [Act.put, List.setIfInBounds_toArray, List.set_cons_zero, List.set_cons_succ]
  refine wpAnyH_takeD (i := 6) (d := some 17) (v := ?_) rfl rfl (by kernel_rfl) (by kernel_rfl) (by kernel_rfl) (fun _ _ _ h => h) (Or.inl ⟨by rfl, ?_⟩) (by assumption) ?_
  rotate_left
  · intro w hSw; (try dsimp only at hSw); go_simp; all_goals (with_reducible rfl)
  simp only [Act.put, List.setIfInBounds_toArray, List.set_cons_zero, List.set_cons_succ]
  refine wpAnyH_takeD (i := 7) (d := some 18) (v := ?_) rfl rfl (by kernel_rfl) (by kernel_rfl) (by kernel_rfl) (fun _ _ _ h => h) (Or.inl ⟨by rfl, ?_⟩) (by assumption) ?_
  rotate_left
  · intro w hSw; (try dsimp only at hSw); go_simp; all_goals (with_reducible rfl)
  simp only [Act.put, List.setIfInBounds_toArray, List.set_cons_zero, List.set_cons_succ]
  refine wpAnyH_takeD (i := 8) (d := some 19) (v := ?_) rfl rfl (by kernel_rfl) (by kernel_rfl) (by kernel_rfl) (fun _ _ _ h => h) (Or.inl ⟨by rfl, ?_⟩) (by assumption) ?_
  rotate_left
  · intro w hSw; (try dsimp only at hSw); go_simp; all_goals (with_reducible rfl)
  simp only [Act.put, List.setIfInBounds_toArray, List.set_cons_zero, List.set_cons_succ]
  refine wpAnyH_takeD (i := 9) (d := some 20) (v := ?_) rfl rfl (by kernel_rfl) (by kernel_rfl) (by kernel_rfl) (fun _ _ _ h => h) (Or.inl ⟨by rfl, ?_⟩) (by assumption) ?_
  rotate_left
  · intro w hSw; (try dsimp only at hSw); go_simp; all_goals (with_reducible rfl)
  simp only [Act.put, List.setIfInBounds_toArray, List.set_cons_zero, List.set_cons_succ]
  refine wpAnyH_takeD (i := 10) (d := some 21) (v := ?_) rfl rfl (by kernel_rfl) (by kernel_rfl) (by kernel_rfl) (fun _ _ _ h => h) (Or.inl ⟨by rfl, ?_⟩) (by assumption) ?_
  rotate_left
  · intro w hSw; (try dsimp only at hSw); go_simp; all_goals (with_reducible rfl)
  simp only [Act.put, List.setIfInBounds_toArray, List.set_cons_zero, List.set_cons_succ]
  refine wpAnyH_takeD (i := 11) (d := some 22) (v := ?_) rfl rfl (by kernel_rfl) (by kernel_rfl) (by kernel_rfl) (fun _ _ _ h => h) (Or.inl ⟨by rfl, ?_⟩) (by assumption) ?_
  rotate_left
  · intro w hSw; (try dsimp only at hSw); go_simp; all_goals (with_reducible rfl)
  simp only [Act.put, List.setIfInBounds_toArray, List.set_cons_zero, List.set_cons_succ]
  refine wpAnyH_ready (rs := [12]) (by kernel_rfl) (by simp) ?_
  refine AllReadyH.cons (o := _) rfl (fun K hK => ?_) AllReadyH.nil
  go_simp
  refine (HCS.out _).mono ?_
  rintro e w2 ⟨rfl, rfl⟩
  go_wp2_with fail
  refine hK.out _ _ ⟨c0, c0'⟩ (fun hHeld => ?_)
  clear hK K hHeld
  try simp only [Act.put, List.setIfInBounds_toArray, List.set_cons_zero, List.set_cons_succ]
  have HB2 := Lib.hid (HB.out.drew)
  obtain ⟨W2, hW2⟩ : ∃ W, w'.drew = W := ⟨_, rfl⟩
  have d0 : w'.drew.cell? ⟨b0, 0, none⟩ = some (.string c) := c0
  have d0' : w'.drew.cell? ⟨b0 + 1, 0, none⟩ = some (.string c') := c0'
  rw [hW2] at HB2 d0 d0' ⊢
  obtain ⟨x, hx⟩ : ∃ x, Lib.compareInt f f' = x := ⟨_, rfl⟩
  obtain ⟨y, hy⟩ : ∃ y, IntKind.i64.wrap ((c.size : Int) - (c'.size : Int)) = y := ⟨_, rfl⟩
  obtain ⟨z, hz⟩ : ∃ z, Lib.compareBytes c.data.toList c'.data.toList = z := ⟨_, rfl⟩
  try rw [hx]
  try rw [hy]
  try rw [hz]
  obtain ⟨W3, hW3, hp3⟩ : ∃ W, W2.alloc (.cells #[.int .i64 x, .int .i64 y, .int .i64 z] 3) = W ∧ Blk W W2.heap.size #[.int .i64 x, .int .i64 y, .int .i64 z] 3 := ⟨_, rfl, Blk.new _ _ _⟩
  have HB3 := Lib.hid (show Below w.heap.size w W3 from by rw [← hW3]; exact HB2.out.alloc HB2.out.size _)
  have hg3 : Below W2.heap.size W2 W3 := by rw [← hW3]; exact (Below.refl _ _).alloc (Nat.le_refl _) _
  have e0 : W3.cell? ⟨b0, 0, none⟩ = some (.string c) := by rw [hg3.cell (p := ⟨b0, 0, none⟩) (cell_lt d0)]; exact d0
  have e0' : W3.cell? ⟨b0 + 1, 0, none⟩ = some (.string c') := by rw [hg3.cell (p := ⟨b0 + 1, 0, none⟩) (cell_lt d0')]; exact d0'
  obtain ⟨p3, hpe3⟩ : ∃ q, W2.heap.size = q := ⟨_, rfl⟩
  rw [hpe3] at hp3
  have HP3 := Lib.hid hp3
  clear hW2 HB2 HB hx hy hz hg3 d0 d0' c0 c0' c2 c2' HX0 HX1 hW1 HCM HCS hp3
  refine wpAnyH_ready (rs := [13]) (by kernel_rfl) (by simp) ?_
  refine AllReadyH.cons (o := _) rfl (fun K hK => ?_) AllReadyH.nil
  go_simp
  try rw [hW3]
  try rw [hpe3]
  refine hK.out _ _ ⟨e0, e0'⟩ (fun hHeld => ?_)
  clear hK K hHeld hW3 hpe3
  try simp only [Act.put, List.setIfInBounds_toArray, List.set_cons_zero, List.set_cons_succ]
  refine wpAnyH_ready (rs := [14]) (by kernel_rfl) (by simp) ?_
  refine AllReadyH.cons (o := _) rfl (fun K hK => ?_) AllReadyH.nil
  go_simp
  refine (or_any p3 x y z W3 HP3.out).mono ?_
  rintro e W4 ⟨⟨r, rfl⟩, hb4⟩
  have HB4 := Lib.hid (HB3.out.trans (hb4.mono HB3.out.size))
  have g0 : W4.cell? ⟨b0, 0, none⟩ = some (.string c) := by rw [hb4.cell (p := ⟨b0, 0, none⟩) (cell_lt e0)]; exact e0
  have g0' : W4.cell? ⟨b0 + 1, 0, none⟩ = some (.string c') := by rw [hb4.cell (p := ⟨b0 + 1, 0, none⟩) (cell_lt e0')]; exact e0'
  clear hb4 HB3 e0 e0' HP3
  go_wp2_with fail
  refine hK.out _ _ ⟨g0, g0'⟩ (fun hHeld => ?_)
  clear hK K g0 g0'
  try simp only [Act.put, List.setIfInBounds_toArray, List.set_cons_zero, List.set_cons_succ]
  refine wpAnyH_takeD (i := 15) (d := some 26) (v := ?_) rfl rfl (by kernel_rfl) (by kernel_rfl) (by kernel_rfl) (fun _ _ _ h => h) (Or.inl ⟨by rfl, ?_⟩) (by assumption) ?_
  rotate_left
  · intro w hSw; (try dsimp only at hSw); go_simp; all_goals (with_reducible rfl)
  simp only [Act.put, List.setIfInBounds_toArray, List.set_cons_zero, List.set_cons_succ]
  refine wpAnyH_takeD (i := 16) (d := some 4) (v := ?_) rfl rfl (by kernel_rfl) (by kernel_rfl) (by kernel_rfl) (fun _ _ _ h => h) (Or.inl ⟨by rfl, ?_⟩) (by assumption) ?_
  rotate_left
  · intro w hSw; (try dsimp only at hSw); go_simp; all_goals (with_reducible rfl)
  simp only [Act.put, List.setIfInBounds_toArray, List.set_cons_zero, List.set_cons_succ]
  refine wpAnyH_done (by kernel_rfl) ?_ _
  clear hHeld
  go_wp2
  go_ret
  exact ⟨⟨_, rfl⟩, HB4.out⟩

end Go.Proofs.YtplobpelhcagpaaDoor
