/-
  Multi: law13's Plain, law17's Plain.
-/
import Derived.Test.YtplobpelhcagpaaDoorMtF
namespace Go.Proofs.YtplobpelhcagpaaDoor
open Go.RowKit Go.Shelf Pl14

/-- a text's characters, in a block -/
def TxtB (w : World) (v : Value) (xs : List Int) : Prop := ∃ b cs cap, v = .slice (some ⟨b, 0, none⟩) xs.length cap ∧ xs.length ≤ cap ∧ cap ≤ 9223372036854775807 ∧ Blk w b cs 21 ∧ ∀ j, j < xs.length → cs[j]? = some (.int .i32 (xs.getD j 0))
theorem TxtB.rd {w : World} {v : Value} {xs : List Int} (h : TxtB w v xs) : Rd .i32 w v xs := by
  obtain ⟨b, cs, cap, rfl, h1, h2, h3, h4⟩ := h
  exact ⟨_, cap, rfl, h1, h2, (fun h => by cases h), .inr ⟨b, 0, rfl, fun j hj => (h3.cell (0 + j)).trans (by rw [Nat.zero_add]; exact h4 j hj)⟩⟩
theorem TxtB.grown {w w' : World} {v : Value} {xs : List Int} {row : Option Nat} (h : TxtB w v xs) (hg : w.grownBy w' row) (hr : ∀ b cs, Blk w b cs 21 → some b ≠ row) : TxtB w' v xs := by
  obtain ⟨b, cs, cap, rfl, h1, h2, h3, h4⟩ := h
  exact ⟨b, cs, cap, rfl, h1, h2, h3.grown hg (hr b cs h3), h4⟩
theorem TxtB.keep {w w' : World} {v : Value} {xs : List Int} {S : Nat → Prop} (h : TxtB w v xs) (hk : Keep S w w') (hs : ∀ b cs, Blk w b cs 21 → ¬ S b) : TxtB w' v xs := by
  obtain ⟨b, cs, cap, rfl, h1, h2, h3, h4⟩ := h
  exact ⟨b, cs, cap, rfl, h1, h2, h3.keep hk (hs b cs h3), h4⟩
theorem blk_type {w : World} {b : Nat} {cs cs' : Array Value} {T T' : TypeId} (h : Blk w b cs T) (h' : Blk w b cs' T') : T = T' := by
  unfold Blk at h h'
  rw [h] at h'
  injection h' with h'
  injection h'
theorem TxtB.below {w w' : World} {v : Value} {xs : List Int} {m : Nat} (h : TxtB w v xs) (hb : Below m w w') (hm : m = w.heap.size) : TxtB w' v xs := by
  obtain ⟨b, cs, cap, rfl, h1, h2, h3, h4⟩ := h
  exact ⟨b, cs, cap, rfl, h1, h2, h3.below hb (by rw [hm]; exact h3.lt), h4⟩
theorem conv_runesB (t : ByteArray) (w : World) (ht : t.size ≤ 1000000) :
    ∃ v w', (convert 9 75 (.string t)).run Tryd.prog w = .ok v w' ∧ TxtB w' v (runesL t) ∧ Below w.heap.size w w' := by
  have hlen : (runesL t).length ≤ 1000000 := by rw [runesL_len]; have := Lib.runeCount_le t; omega
  have h := run_runes_of_string (P := Tryd.prog) w 9 75 21 t Tryd.underlying9 Tryd.underlying75 Tryd.underlying21 (by rw [runesL_from]; simp; omega)
  have hge := grownCap_ge w (Conv.runesFrom t t.size 0 #[]).size 0 21
  obtain ⟨cap, hcap⟩ : ∃ q, grownCap w (Conv.runesFrom t t.size 0 #[]).size 0 21 = q := ⟨_, rfl⟩
  rw [hcap] at h hge
  rw [runesL_from] at h hge
  simp only [List.size_toArray, List.length_map] at h hge
  refine ⟨_, _, h, ⟨w.heap.size, _, cap, rfl, by omega, ?_, Blk.new w.drew _ _, fun j hj => ?_⟩, ((Below.refl _ _).drewN 1).alloc (by simp) _⟩
  · rw [← hcap]
    have := grownCap_le_maxLen w (Conv.runesFrom t t.size 0 #[]).size 0 21 (by rw [runesL_from]; simp; unfold maxLen; omega)
    unfold maxLen at this; omega
  · simp [hj, List.getD_eq_getElem?_getD]
    rw [Array.getElem?_append_left (by simpa using hj)]
    simp [hj]

def PlainR (w' : World) (e : Ending) (c t : ByteArray) (fl : Int) : Prop := ∃ tv, e = .returned (.agg #[.string c, tv, .int .i64 fl]) ∧ TxtB w' tv (runesL t)
set_option maxRecDepth 100000 in
set_option maxHeartbeats 8000000 in
theorem plain13_any (c t : ByteArray) (fl : Int) (w : World) (hv : Lib.validD t.data.toList = true) (hsz : t.size ≤ 1000000) : Calls Tryd.prog 33 #[rowV c t fl] w fun e w' => PlainR w' e c t fl ∧ Below w.heap.size w w' := by
  have HV := Lib.hid hv; clear hv
  unfold rowV
  obtain ⟨W1, hW1⟩ : ∃ W, (w.alloc (.cells #[.string c, .string t, .int .i64 fl] 47)).alloc (.cells #[.string ⟨#[]⟩, .slice none 0 0, .int .i64 0] 98) = W := ⟨_, rfl⟩
  obtain ⟨b0, hb0⟩ : ∃ q, w.heap.size = q := ⟨_, rfl⟩
  have hx0 : Blk W1 b0 #[.string c, .string t, .int .i64 fl] 47 := by rw [← hW1, ← hb0]; exact (Blk.new _ _ _).grown (World.grownBy_alloc _ _ none) (by simp)
  have hx1 : Blk W1 (b0 + 1) #[.string ⟨#[]⟩, .slice none 0 0, .int .i64 0] 98 := by
    have := Blk.new (w.alloc (.cells #[.string c, .string t, .int .i64 fl] 47)) #[.string ⟨#[]⟩, .slice none 0 0, .int .i64 0] 98
    rw [hW1] at this
    simpa [hb0] using this
  have hbl : Below b0 w W1 := by rw [← hW1, ← hb0]; exact ((Below.refl _ _).alloc (Nat.le_refl _) _).alloc (by simp) _
  have hs1 : W1.heap.size = b0 + 2 := by rw [← hW1, ← hb0]; simp
  have HX0 := Lib.hid hx0
  have HX1 := Lib.hid hx1; clear hx1
  have HB := Lib.hid hbl; clear hbl
  rw [hb0]
  have c0 : W1.cell? ⟨b0, 0, none⟩ = some (.string c) := by have := hx0.cell 0; simpa using this
  have c1 : W1.cell? ⟨b0, 1, none⟩ = some (.string t) := by have := hx0.cell 1; simpa using this
  have c2 : W1.cell? ⟨b0, 2, none⟩ = some (.int .i64 fl) := by have := hx0.cell 2; simpa using this
  clear hx0
  go_enter Tryd.func33, Tryd.ntmps33
  go_wp2_with fail
  refine (valid13_any t W1 HV.out hsz).mono ?_
  rintro e W2 ⟨rfl, hb2⟩
  rw [hs1] at hb2
  have HX02 := Lib.hid (HX0.out.below hb2 (by omega))
  have HX12 := Lib.hid (HX1.out.below hb2 (by omega))
  have HB2 := Lib.hid (HB.out.trans (hb2.mono (by omega)))
  clear hb2 HX0 HX1 HB c0 c1 c2 hW1
  obtain ⟨tv, W3, hcv, htx, hb3⟩ := conv_runesB t W2 hsz
  have hs2 : b0 + 2 ≤ W2.heap.size := by have := HX12.out.lt; omega
  have HX03 := Lib.hid (HX02.out.below hb3 (by omega))
  have HX13 := Lib.hid (HX12.out.below hb3 (by omega))
  have HB3 := Lib.hid (HB2.out.trans (hb3.mono (by omega)))
  obtain ⟨tb, tn, tc, rfl⟩ : ∃ b n c, tv = .slice (some ⟨b, 0, none⟩) n c := by obtain ⟨b, _, c, h, _⟩ := htx; exact ⟨b, _, c, h⟩
  have HTX := Lib.hid htx
  have hs3 := hb3.size
  have c0 : W2.cell? ⟨b0, 0, none⟩ = some (.string c) := by have := HX02.out.cell 0; simpa using this
  have c1 : W2.cell? ⟨b0, 1, none⟩ = some (.string t) := by have := HX02.out.cell 1; simpa using this
  have c2 : W3.cell? ⟨b0, 2, none⟩ = some (.int .i64 fl) := by have := HX03.out.cell 2; simpa using this
  have d0 : W3.cell? ⟨b0 + 1, 0, none⟩ = some (.string ⟨#[]⟩) := by have := HX13.out.cell 0; simpa using this
  have d1 : W3.cell? ⟨b0 + 1, 1, none⟩ = some (.slice none 0 0) := by have := HX13.out.cell 1; simpa using this
  have d2 : W3.cell? ⟨b0 + 1, 2, none⟩ = some (.int .i64 0) := by have := HX13.out.cell 2; simpa using this
  have f0 : W3.frozen? ⟨b0 + 1, 0, none⟩ = false := HX13.out.frozen 0
  have f1 : W3.frozen? ⟨b0 + 1, 1, none⟩ = false := HX13.out.frozen 1
  have f2 : W3.frozen? ⟨b0 + 1, 2, none⟩ = false := HX13.out.frozen 2
  clear htx hb3
  go_wp2
  obtain ⟨W4, hW4⟩ : ∃ W, ((W3.setCell ⟨b0 + 1, 0, none⟩ (.string c)).setCell ⟨b0 + 1, 1, none⟩ (.slice (some ⟨tb, 0, none⟩) tn tc)).setCell ⟨b0 + 1, 2, none⟩ (.int .i64 fl) = W := ⟨_, rfl⟩
  have h4 : Blk W4 (b0 + 1) #[.string c, .slice (some ⟨tb, 0, none⟩) tn tc, .int .i64 fl] 98 := by rw [← hW4]; exact ((HX13.out.set 0 _).set 1 _).set 2 _
  have hk4 : Keep (fun j => j = b0 + 1) W3 W4 := by
    rw [← hW4]
    exact ((Keep.of_setCell _ _ _ _).trans (Keep.of_setCell _ _ _ _) (fun _ _ h => h)).trans (Keep.of_setCell _ _ _ _) (fun _ _ h => h)
  have ht4 := HTX.out.keep hk4 (fun b cs hb e => by subst e; exact absurd (blk_type hb HX13.out) (by decide))
  have hB4 : Below b0 w W4 := HB3.out.trans (hk4.below (by omega) (fun j e => by omega))
  rw [hW4]
  have e0 : W4.cell? ⟨b0 + 1, 0, none⟩ = some (.string c) := by have := h4.cell 0; simpa using this
  have e1 : W4.cell? ⟨b0 + 1, 1, none⟩ = some (.slice (some ⟨tb, 0, none⟩) tn tc) := by have := h4.cell 1; simpa using this
  have e2 : W4.cell? ⟨b0 + 1, 2, none⟩ = some (.int .i64 fl) := by have := h4.cell 2; simpa using this
  refine bodyPost_ret (v := .agg #[.string c, .slice (some ⟨tb, 0, none⟩) tn tc, .int .i64 fl]) ?_ rfl ⟨⟨_, rfl, ht4⟩, hB4⟩
  clear ht4 hB4 hk4 h4 hW4
  have hr : Tryd.f33.results = #[.cell 2 98] := rfl
  simp only [results, hr]
  go_simp

/-- rows and their characters' slices -/
def plC (x : Value × MRow) : List Value := [.string x.2.1, x.1, .int .i64 x.2.2.2]
theorem plC_one (xs : List (Value × MRow)) (h : ∀ x ∈ xs, x.1.oneCell' = true) : ∀ u ∈ xs.flatMap plC, u.oneCell' = true := by
  intro u hu
  obtain ⟨x, hx, hr⟩ := List.mem_flatMap.1 hu
  simp [plC] at hr
  rcases hr with rfl | rfl | rfl
  · rfl
  · exact h x hx
  · rfl
theorem refRowE : ElemN Tryd.prog 41 98 (.agg #[.string ⟨#[]⟩, .slice none 0 0, .int .i64 0]) 3 48 := ElemN.mk' Tryd.underlying41 rfl (by decide) (by kernel_rfl)
theorem appendN {P : Program} {t e : TypeId} {z : Value} {size bytes : Nat} (E : ElemN P t e z size bytes) {w : World} {ops : Array Oper} {rest : List Oper} {o : Oper} {a : Act} {Q : Exit → Act → World → Prop} (hgd : o.guard = none) (s x : Operand)
    (ho : o.op = .call { callee := .builtin .append, args := #[s, x], argTypes := #[t, t] }) (base : Nat) (v : Value) (n : Nat) (xs : List Value) (hs : a.eval s = v) (hown : w.ownsRow base e size v n xs)
    (p : Nat) (cs : Array Value) (T : TypeId) (hp : Blk w p cs T) (hx : a.eval x = .slice (some ⟨p, 0, none⟩) 1 1) (hl : cs.toList.length = size) (h1 : ∀ u ∈ cs.toList, u.oneCell' = true) (hbytes : (n + 1) * bytes ≤ 140737488355328) (hn : n ≤ 140737488355328) (hbase : base ≤ w.heap.size)
    (h : ∀ g cap w', w'.ownsRow base e size (.slice (some ⟨g, 0, none⟩) (n + 1) cap) (n + 1) (xs ++ cs.toList) → w.grownBy w' v.ownBlock → wpList P ops Q rest (a.put o.dst (.slice (some ⟨g, 0, none⟩) (n + 1) cap)) w') : wpList P ops Q (o :: rest) a w := by
  obtain ⟨i, hi, hz, hsz, hby⟩ := E.hi
  exact wpList_append_lies w hgd s x t ho base e i z size bytes E.ht hi hz hsz hby E.hz E.hs v n xs hs hown ⟨p, 0, none⟩ 1 1 cs.toList hx (by rw [hl, Nat.one_mul]) (World.news_of_block hp) h1 (by omega) (by unfold maxLen; omega) hbytes hbase _ rfl (fun g cap w' h2 h3 _ _ => h g cap w' h2 h3)
/-- what Plain holds -/
def PlI (B : Nat) (w : World) (v : Value) (n : Nat) (rs : List MRow) : Prop := ∃ xs : List (Value × MRow), xs.map (·.2) = rs ∧ n = xs.length ∧ w.ownsRow B 98 3 v n (xs.flatMap plC) ∧ ∀ x ∈ xs, TxtB w x.1 (runesL x.2.2.1)
theorem PlI.below {B m n : Nat} {w w' : World} {v : Value} {rs : List MRow} (h : PlI B w v n rs) (hb : Below m w w') (hm : m = w.heap.size) : PlI B w' v n rs := by
  obtain ⟨xs, h1, h2, h3, h4⟩ := h
  exact ⟨xs, h1, h2, ownsRow_below h3 hb hm, fun x hx => (h4 x hx).below hb hm⟩
theorem PlI.rd {B n : Nat} {w : World} {v : Value} {rs : List MRow} (h : PlI B w v n rs) : RdP w v rs := by
  obtain ⟨xs, rfl, rfl, h3, h4⟩ := h
  obtain ⟨a, cap, rfl, k1, k2, k3⟩ := ownsRow_shapeN h3
  refine ⟨a, cap, by simp, by simpa using k1, k2, ?_⟩
  rcases k3 with ⟨_, _, h0⟩ | ⟨g, rfl, _⟩
  · left
    have : xs = [] := List.eq_nil_of_length_eq_zero h0
    rw [this]; rfl
  · refine .inr ⟨g, 0, rfl, fun j hj => ?_⟩
    have hjx : j < xs.length := by simpa using hj
    have hf : ∀ c, c < 3 → (xs.flatMap plC)[3 * j + c]? = (plC xs[j])[c]? := fun c hc => flat_at plC 3 (fun _ => rfl) xs j c hjx hc
    have e : (xs.map (·.2)).getD j mr0 = xs[j].2 := by simp [List.getD_eq_getElem?_getD, hjx]
    have ha : ∀ k, (⟨g, 0, none⟩ : Addr).add k = ⟨g, k, none⟩ := fun k => by unfold Addr.add; split <;> simp_all
    have hc : ∀ c u, (plC xs[j])[c]? = some u → c < 3 → w.cell? ⟨g, 3 * j + c, none⟩ = some u := fun c u hu hc3 => by
      have := World.ownsRow.cells h3 (g := g) rfl (3 * j + c) u (by rw [hf c hc3]; exact hu)
      rwa [ha] at this
    rw [e]
    refine ⟨?_, ⟨xs[j].1, ?_, (h4 _ (List.getElem_mem hjx)).rd⟩, ?_⟩
    · rw [show 0 + j * 3 = 3 * j + 0 by omega]; exact hc 0 _ rfl (by decide)
    · rw [show 0 + j * 3 + 1 = 3 * j + 1 by omega]; exact hc 1 _ rfl (by decide)
    · rw [show 0 + j * 3 + 2 = 3 * j + 2 by omega]; exact hc 2 _ rfl (by decide)

set_option maxRecDepth 100000 in
set_option maxHeartbeats 8000000 in
theorem plain17_any (vl : Value) (rs : List MRow) (w : World) (hl : RdM w vl rs) (hn : rs.length ≤ 1000) (hv : ∀ r ∈ rs, Lib.validD r.2.1.data.toList = true) (hsz : ∀ r ∈ rs, r.2.1.size ≤ 300000) :
    Calls Tryd.prog 16 #[vl] w fun e w' => (∃ v n, e = .returned v ∧ PlI w.heap.size w' v n rs) ∧ Below w.heap.size w w' := by
  have HL := Lib.hid hl
  have HV := Lib.hid hv; clear hv
  have HSZ := Lib.hid hsz; clear hsz
  obtain ⟨sa, scap, rfl, hs1, hs2, -, -⟩ := hl
  obtain ⟨N, hN⟩ : ∃ n, rs.length = n := ⟨_, rfl⟩
  rw [hN] at hs1 HL hn ⊢
  have HN := Lib.hid hN; clear hN
  obtain ⟨B, hB0⟩ : ∃ q, w.heap.size = q := ⟨_, rfl⟩
  rw [hB0]
  have HB0 := Lib.hid hB0
  go_enter Tryd.func16, Tryd.ntmps16
  go_wp2
  go_loopw [3, 4] (fun s3 s4 wr => ∃ i : Nat, s4 = .int .i64 i ∧ i ≤ N ∧ PlI B wr s3 i (rs.take i) ∧ Below B w wr) (fun _ s4 _ => N - (intOf s4).toNat)
  case atStart => exact ⟨0, rfl, Nat.zero_le _, ⟨[], rfl, rfl, World.ownsRow_nil _ _ _ _, by simp⟩, by rw [← hB0]; exact Below.refl _ _⟩
  case round =>
    obtain ⟨i, rfl, hi, hP, hb⟩ := hrel
    obtain ⟨v, hv⟩ : ∃ v, u3 = v := ⟨_, rfl⟩
    rw [hv] at hP ⊢
    clear hv u3
    have HP := Lib.hid hP; clear hP
    have HB := Lib.hid hb; clear hb
    by_cases hlt : i < N
    · have hir : i < rs.length := by rw [HN.out]; exact hlt
      obtain ⟨b1, o1, rfl, c0, c1, c2⟩ := (HL.out.mono HB.out HB0.out.symm).at hir
      obtain ⟨r, hr⟩ : ∃ r, rs.getD i mr0 = r := ⟨_, rfl⟩
      rw [hr] at c0 c1 c2
      have hmem : r ∈ rs := by rw [← hr]; exact getD_mem hir
      have HTK := Lib.hid (show rs.take (i + 1) = rs.take i ++ [r] from by rw [List.take_succ_eq_append_getElem hir, ← hr]; simp [List.getD_eq_getElem?_getD, hir])
      obtain ⟨rc, rt, rf⟩ := r
      simp only at c0 c1 c2
      go_wp2_with fail
      refine (plain13_any rc rt rf wr (HV.out _ hmem) (by have := HSZ.out _ hmem; simp only at this; omega)).mono ?_
      rintro e W2 ⟨⟨tv, rfl, htx⟩, hb2⟩
      obtain ⟨tb, tn, tc, rfl⟩ : ∃ b n c, tv = .slice (some ⟨b, 0, none⟩) n c := by obtain ⟨b, _, c, h, _⟩ := htx; exact ⟨b, _, c, h⟩
      obtain ⟨xs, hx1, hx2, hx3, hx4⟩ := HP.out.below hb2 rfl
      have HB2 := Lib.hid (HB.out.trans (hb2.mono (by rw [← HB0.out]; exact HB.out.size)))
      obtain ⟨W3, hW3⟩ : ∃ W, W2.alloc (.cells #[.string rc, .slice (some ⟨tb, 0, none⟩) tn tc, .int .i64 rf] 98) = W := ⟨_, rfl⟩
      have hbk := Blk.new W2 #[.string rc, .slice (some ⟨tb, 0, none⟩) tn tc, .int .i64 rf] 98
      obtain ⟨p3, hp3⟩ : ∃ q, W2.heap.size = q := ⟨_, rfl⟩
      rw [hW3, hp3] at hbk
      have hb3 : Below W2.heap.size W2 W3 := by rw [← hW3]; exact (Below.refl _ _).alloc (Nat.le_refl _) _
      have HBK := Lib.hid hbk
      have HR3 := Lib.hid (ownsRow_below hx3 hb3 rfl)
      have HX3 := Lib.hid (fun x hx => (hx4 x hx).below hb3 rfl)
      have HT3 := Lib.hid (htx.below hb3 rfl)
      have HB3 := Lib.hid (HB2.out.trans (hb3.mono (by rw [← HB0.out]; exact HB2.out.size)))
      have HX1 := Lib.hid hx1
      have HX2 := Lib.hid hx2
      have hbz : B ≤ W3.heap.size := HB3.out.size |> fun h => by rw [HB0.out] at h; exact h
      clear hbk hx1 hx2 hx3 hx4 htx hb2 hb3 HB2 HP hmem hir hr
      go_wp2_with (at_builtin; refine appendN refRowE rfl _ _ rfl B v i (xs.flatMap plC) rfl HR3.out p3 #[.string rc, .slice (some ⟨tb, 0, none⟩) tn tc, .int .i64 rf] _ HBK.out rfl rfl (by simp [Value.oneCell']) (by omega) (by omega) hbz ?_; intro g cap w4 hown hgr)
      have HOW := Lib.hid hown; clear hown
      have HB4 := Lib.hid (HB3.out.grown hgr hbz (fun j hj => (World.ownsRow.lt HR3.out j hj).1))
      have HX4 := Lib.hid (show ∀ x ∈ xs ++ [((.slice (some ⟨tb, 0, none⟩) tn tc : Value), ((rc, rt, rf) : MRow))], TxtB w4 x.1 (runesL x.2.2.1) from by
        intro x hx
        rcases List.mem_append.1 hx with hx | hx
        · exact (HX3.out x hx).grown hgr (fun b cs hb => blk_ne_row hb HR3.out (by decide))
        · obtain rfl : x = _ := by simpa using hx
          exact HT3.out.grown hgr (fun b cs hb => blk_ne_row hb HR3.out (by decide)))
      clear hgr
      go_roundw
      case rel =>
        refine ⟨i + 1, by go_num, by omega, ⟨_, ?_, ?_, ?_, HX4.out⟩, HB4.out⟩
        · rw [HTK.out, List.map_append, HX1.out]; rfl
        · rw [List.length_append, ← HX2.out]; rfl
        · have := HOW.out; rw [List.flatMap_append]; simpa [plC] using this
      case measure => simp [intOf]; omega
    · have hiN : i = N := by omega
      rw [hiN] at HP
      have hP2 := HP.out
      rw [← HN.out, List.take_length] at hP2
      have HP2 := Lib.hid hP2
      clear hiN hP2
      go_wp2
      go_ret
      exact ⟨⟨_, _, rfl, HP2.out⟩, HB.out⟩

end Go.Proofs.YtplobpelhcagpaaDoor
