/-
  Multi: Decode.
-/
import Derived.Test.YtplobpelhcagpaaDoorMsM
namespace Go.Proofs.YtplobpelhcagpaaDoor
open Go.RowKit Go.Shelf Pl14

section
variable {w w' : World} {ops : Array Oper} {rest : List Oper} {o : Oper} {a : Act} {Q : Exit → Act → World → Prop} {K : Act → World → Prop} {E : Prop}
theorem wpList_appF (hgd : o.guard = none) (s x : Operand) (ho : o.op = .call { callee := .builtin .append, args := #[s, x], argTypes := #[35, 35] }) (hty : o.type = 35) {v vx v' : Value} (hs : a.eval s = v) (hx : a.eval x = vx)
    (hr : (Builtin.append_ #[35, 35] 35 #[v, vx]).run Tryd.prog w = .ok v' w') (h : wpList Tryd.prog ops Q rest (a.put o.dst v') w') : wpList Tryd.prog ops Q (o :: rest) a w := by
  refine wpList_plain hgd fun K hK => ?_
  rw [← hty] at hr
  unfold Oper.wp execOp
  simp only [ho, resolve, invoke, builtin, Sem.run_bind, Sem.run_pure, Result.andThen_ok, List.map_toArray, List.map_cons, List.map_nil, hs, hx]
  rw [hty] at hr ⊢
  simp only [hr]
  exact hK _ _ h
theorem step_appF {d : Option Tmp} (hd : o.dst = d) (hgd : o.guard = none) (s x : Operand) (ho : o.op = .call { callee := .builtin .append, args := #[s, x], argTypes := #[35, 35] }) (hty : o.type = 35) {v vx v' : Value} (hs : a.eval s = v) (hx : a.eval x = vx)
    (hr : (Builtin.append_ #[35, 35] 35 #[v, vx]).run Tryd.prog w = .ok v' w') (h : K (a.put d v') w') : if Region.wanted o (yielded ops a.tmps) = true then Oper.wp Tryd.prog o a w K Q else E := by
  subst hd
  have hw : Region.wanted o (yielded ops a.tmps) = true := by simp [Region.wanted, hgd]
  rw [if_pos hw]
  unfold Oper.wp execOp
  simp only [ho, resolve, invoke, builtin, Sem.run_bind, Sem.run_pure, Result.andThen_ok, List.map_toArray, List.map_cons, List.map_nil, hs, hx]
  rw [hty]
  simp only [hr]
  exact h
end

theorem stepR_inv (ps : List CT) (how : Int) (hps : textsLe ps) : ∀ (f : Nat) (out : Bytes) (fs : List (Int × Int)) (held : Bytes) (at_ : Nat) (x : StepA), stepR ps how f out fs held at_ = x →
    x.out.length + 300000 * x.held.length ≤ out.length + 300000 * held.length ∧ x.fs.length + x.held.length ≤ fs.length + held.length ∧ x.at_ + x.held.length ≤ at_ + held.length ∧ ((x.er = 0 ∧ x.closed = false ∧ x.at_ + x.held.length = at_ + held.length) ∨ (x.er = 17 ∧ x.closed = true ∧ x.held = [] ∧ how = 1)) := by
  intro f
  induction f with
  | zero =>
    intro out fs held at_ x hx
    subst hx
    exact ⟨Nat.le_refl _, Nat.le_refl _, Nat.le_refl _, .inl ⟨rfl, rfl, rfl⟩⟩
  | succ f ih =>
    intro out fs held at_ x hx
    rw [stepR] at hx
    by_cases h0 : held = []
    · rw [if_pos h0] at hx
      subst hx
      exact ⟨Nat.le_refl _, Nat.le_refl _, Nat.le_refl _, .inl ⟨rfl, rfl, rfl⟩⟩
    rw [if_neg h0] at hx
    have hpos : 0 < held.length := List.length_pos_iff.2 h0
    obtain ⟨n, t, er, hn⟩ : ∃ n t er, nextP ps held = (n, t, er) := ⟨_, _, _, rfl⟩
    rw [hn] at hx
    simp only at hx
    rcases nextP_cases ps held hn with ⟨rfl, h1, h2, h3⟩ | ⟨rfl, rfl, rfl⟩ | ⟨rfl, rfl, rfl⟩
    · rw [if_pos rfl] at hx
      have ht : t.length ≤ 300000 := by
        obtain ⟨p, hp, _, rfl⟩ := lookT_mem h3
        rw [← size_toList]; exact hps p hp
      obtain ⟨i1, i2, i3, i4⟩ := ih _ _ _ _ x hx
      rw [List.length_append, List.length_drop] at i1
      rw [List.length_drop] at i2 i3 i4
      refine ⟨by omega, by omega, by omega, ?_⟩
      rcases i4 with ⟨a, b, c⟩ | h
      · exact .inl ⟨a, b, by omega⟩
      · exact .inr h
    · rw [if_neg (by decide), if_pos rfl] at hx
      subst hx
      exact ⟨Nat.le_refl _, Nat.le_refl _, Nat.le_refl _, .inl ⟨rfl, rfl, rfl⟩⟩
    · rw [if_neg (by decide), if_neg (by decide)] at hx
      have hbl : (badOf how).length ≤ 3 := by unfold badOf; split <;> simp [badB]
      by_cases h1 : how = 1
      · rw [if_pos h1] at hx
        subst hx
        refine ⟨?_, ?_, ?_, .inr ⟨rfl, rfl, rfl, h1⟩⟩ <;> simp <;> omega
      · rw [if_neg h1] at hx
        obtain ⟨i1, i2, i3, i4⟩ := ih _ _ _ _ x hx
        rw [List.length_append, List.length_drop] at i1
        rw [List.length_append, List.length_drop] at i2
        rw [List.length_drop] at i3 i4
        simp at i2
        refine ⟨by omega, by omega, by omega, ?_⟩
        rcases i4 with ⟨a, b, c⟩ | h
        · exact .inl ⟨a, b, by omega⟩
        · exact .inr h

/-- what Decode answers behind held bytes -/
def decR (ps : List CT) (how : Int) : List ByteArray → Bytes → Nat → Bytes → List (Int × Int) → Bytes × List (Int × Int) × Int
  | [], held, at_, out, fs => match flushP how held at_ with
    | (t, l, e) => (out ++ t, fs ++ l, e)
  | p :: r, held, at_, out, fs => match stepP ps how (held ++ p.data.toList) at_ with
    | x => if x.er = 0 then decR ps how r x.held x.at_ (out ++ x.out) (fs ++ x.fs) else (out ++ x.out, fs ++ x.fs, x.er)
def decP (ps : List CT) (how : Int) (parts : List ByteArray) : Bytes × List (Int × Int) × Int := decR ps how parts [] 0 [] []

def totB (parts : List ByteArray) : Nat := (parts.map (·.size)).sum
theorem totB_append (a b : List ByteArray) : totB (a ++ b) = totB a + totB b := by simp [totB]
theorem totB_take (parts : List ByteArray) (i : Nat) (h : i < parts.length) : totB (parts.take (i + 1)) = totB (parts.take i) + (parts.getD i ByteArray.empty).size := by
  rw [List.take_succ_eq_append_getElem h, totB_append]
  have e : parts.getD i ByteArray.empty = parts[i] := by simp [List.getD_eq_getElem?_getD, h]
  rw [e]
  simp [totB]
theorem totB_take_le (parts : List ByteArray) (i : Nat) : totB (parts.take i) ≤ totB parts := by
  have h := totB_append (parts.take i) (parts.drop i)
  rw [List.take_append_drop] at h
  omega

set_option maxRecDepth 100000 in
set_option maxHeartbeats 2000000 in
theorem decodeNil_any (how : Int) (vp : Value) (w : World) : Calls Tryd.prog 14 #[.pointer none, .int .i64 how, vp] w fun e w' => e = .returned (.tuple #[.string ⟨#[]⟩, .slice none 0 0, .int .i64 2]) ∧ w' = w := by
  go_enter Tryd.func14, Tryd.ntmps14
  go_wp2_with fail
  refine (newNil_any how w).mono ?_
  rintro e w1 ⟨rfl, rfl⟩
  go_wp2
  go_ret3
  exact ⟨rfl, rfl⟩

set_option maxRecDepth 100000 in
set_option maxHeartbeats 16000000 in
theorem decode_any (cb : Nat) (how : Int) (ps : List CT) (vp : Value) (parts : List ByteArray) (w : World) (hC : ChLow w cb ps w.heap.size) (hS : RdS w vp parts) (hps : textsLe ps) (htot : totB parts ≤ 200000) :
    Calls Tryd.prog 14 #[.pointer (some ⟨cb, 0, none⟩), .int .i64 how, vp] w fun e w' =>
      (¬ HowOk how ∧ e = .returned (.tuple #[.string ⟨#[]⟩, .slice none 0 0, .int .i64 16]) ∧ w' = w) ∨
      (HowOk how ∧ ∃ s v t fs er, decP ps how parts = (t, fs, er) ∧ e = .returned (.tuple #[.string s, v, .int .i64 er]) ∧ s.data.toList = t ∧ OwnF w.heap.size w' v fs ∧ Below w.heap.size w w') := by
  have HC := Lib.hid hC; clear hC
  have hS2 := hS
  obtain ⟨sa, scap, rfl, hs1, hs2, hs0, hs3⟩ := hS
  obtain ⟨np, hnp⟩ : ∃ n, parts.length = n := ⟨_, rfl⟩
  have HS := Lib.hid hs3; clear hs3 hs0 hS2
  rw [hnp] at hs1 ⊢
  have HNP := Lib.hid hnp; clear hnp
  obtain ⟨X, hX⟩ : ∃ X, decP ps how parts = X := ⟨_, rfl⟩
  rw [hX]
  have HX := Lib.hid hX; clear hX
  go_enter Tryd.func14, Tryd.ntmps14
  go_wp2_with fail
  refine (new_any cb how w).mono ?_
  rintro e w1 (⟨hok, rfl, hd1, hb1, hsz1⟩ | ⟨hno, rfl, rfl⟩)
  · obtain ⟨db, hdb⟩ : ∃ q, w.heap.size = q := ⟨_, rfl⟩
    have HOK := Lib.hid hok; clear hok
    have HDB := Lib.hid hdb
    rw [hdb] at hd1 hb1 hsz1 HC
    try rw [hdb]
    obtain ⟨ab, hab⟩ : ∃ q, w1.heap.size = q := ⟨_, rfl⟩
    rw [hab] at hsz1
    obtain ⟨W2, hW2⟩ : ∃ W, w1.alloc (.cells #[.pointer none, .slice none 0 0, .slice none 0 0] 91) = W := ⟨_, rfl⟩
    have hA2 := Ans.new w1
    rw [hW2, hab] at hA2
    have hb2 : Below ab w1 W2 := by rw [← hW2, ← hab]; exact (Below.refl _ _).alloc (Nat.le_refl _) _
    have HD2 := Lib.hid (hd1.below hb2 hsz1)
    have HB2 := Lib.hid (hb1.trans (hb2.mono (Nat.le_of_lt hsz1)))
    have HA2 := Lib.hid hA2
    have HS2 := Lib.hid (show ab ≤ W2.heap.size from by have := hb2.size; omega)
    clear hA2 hb2 hd1 hb1 hdb
    go_wp2
    go_loopw [30] (fun s30 wr => ∃ (i : Nat) (out : Bytes) (fs : List (Int × Int)) (hb : ByteArray) (at2 : Nat), s30 = .int .i64 i ∧ i ≤ np ∧ Ans ab ab wr out fs ∧ DecB wr db cb how hb at2 false ∧ Below db w wr ∧ ab ≤ wr.heap.size ∧ X = decR ps how (parts.drop i) hb.data.toList at2 out fs ∧
      out.length + 300000 * hb.size ≤ 300000 * totB (parts.take i) ∧ fs.length + hb.size ≤ totB (parts.take i) ∧ at2 + hb.size = totB (parts.take i)) (fun s30 _ => np - (intOf s30).toNat)
    case atStart => exact ⟨0, [], [], ⟨#[]⟩, 0, rfl, Nat.zero_le _, HA2.out, HD2.out, HB2.out, HS2.out, HX.out.symm, by show 0 + 300000 * 0 ≤ _; omega, by show 0 + 0 ≤ _; omega, rfl⟩
    case round =>
      obtain ⟨i, out, fs, hb, at2, rfl, hi, hA, hD, hB, hsz, hX, hb1, hb2, hb3⟩ := hrel
      clear hW2 hab
      have HA3 := Lib.hid hA; clear hA
      have HD3 := Lib.hid hD; clear hD
      have HB3 := Lib.hid hB; clear hB
      have HX3 := Lib.hid hX; clear hX
      have HSZ := Lib.hid hsz; clear hsz
      have HC3 := Lib.hid (HC.out.below HB3.out)
      have htl := totB_take_le parts i
      by_cases hlt : i < np
      · have i0 : (0 : Int) ≤ (i : Int) := by omega
        have i1 : (i : Int) < (np : Int) := by omega
        have hip : i < parts.length := by have := HNP.out; omega
        have hne : parts ≠ [] := fun h => by rw [h] at hip; simp at hip
        rcases HS.out with h | ⟨b1, o1, rfl, hc1⟩
        · exact absurd h hne
        have c1 : wr.cell? ⟨b1, o1 + i, none⟩ = some (.string (parts.getD i ByteArray.empty)) := by rw [HB3.out.cell (p := ⟨b1, o1 + i, none⟩) (by show b1 < db; have := cell_lt (hc1 i hip); have := HDB.out; omega)]; exact hc1 i hip
        obtain ⟨p, hp⟩ : ∃ p, parts.getD i ByteArray.empty = p := ⟨_, rfl⟩
        have htk := totB_take parts i hip
        rw [hp] at c1 htk
        have htl2 := totB_take_le parts (i + 1)
        obtain ⟨q, hq⟩ : ∃ q : Nat, i + 1 = q := ⟨_, rfl⟩
        rw [hq] at htk htl2
        have HXS := Lib.hid (show ∀ x, stepP ps how (hb.data.toList ++ p.data.toList) at2 = x → X = if x.er = 0 then decR ps how (parts.drop q) x.held x.at_ (out ++ x.out) (fs ++ x.fs) else (out ++ x.out, fs ++ x.fs, x.er) from by
          intro x hx
          rw [HX3.out, List.drop_eq_getElem_cons hip, ← hq]
          have e1 : parts[i] = p := by rw [← hp]; simp [List.getD_eq_getElem?_getD, hip]
          rw [e1, decR, hx])
        have HQ := Lib.hid hq
        clear hc1 hne hip hp hq HX3
        obtain ⟨TT, hTT⟩ : ∃ t, totB (parts.take i) = t := ⟨_, rfl⟩
        obtain ⟨TQ, hTQ⟩ : ∃ t, totB (parts.take q) = t := ⟨_, rfl⟩
        rw [hTT] at hb1 hb2 hb3 htl htk
        rw [hTQ] at htk htl2
        have HTQ := Lib.hid hTQ
        clear hTT hTQ
        go_wp2_with fail
        refine (step_any db cb how hb at2 ps p wr HD3.out HC3.out hps (by omega) (by omega)).mono ?_
        rintro e W4 ⟨v, x, hx, rfl, hf4, hd4, hk4⟩
        have hinv := stepR_inv ps how hps _ _ _ _ _ x hx
        have hlen : (hb.data.toList ++ p.data.toList).length = hb.size + p.size := by rw [List.length_append, size_toList, size_toList]
        rw [hlen] at hinv
        simp at hinv
        have HIN := Lib.hid hinv
        have HXN := Lib.hid (HXS.out x hx)
        have HA4 := Lib.hid (HA3.out.keep hk4 (fun j hj e => by omega))
        have HB4 := Lib.hid (show Below db w W4 from HB3.out.trans (hk4.below (by have := HSZ.out; omega) (fun j e => by omega)))
        have HD4 := Lib.hid hd4
        have HF4 := Lib.hid hf4
        have hs4 : ab ≤ W4.heap.size := by have := HSZ.out; have := hk4.size; omega
        have HS4 := Lib.hid hs4
        obtain ⟨va, vcap, hv, _⟩ := ownsRow_shapeN hf4
        obtain ⟨xo, xf, xh, xa, xc, xe⟩ := x
        simp only at HIN HXN HD4 HF4 hv ⊢
        obtain ⟨vn, hvn⟩ : ∃ n, xf.length = n := ⟨_, rfl⟩
        rw [hvn] at hv
        subst hv
        have hxo : xo.length ≤ 300000 * 200000 := by have := HIN.out.1; omega
        have HFL4 := Lib.hid (show xf.length ≤ 400000 from by have := HIN.out.2.1; omega)
        clear hx hinv hlen hf4 hd4 hk4 hs4 HA3 HB3 HD3 HSZ HC3 HXS hvn
        have hxs : (⟨xo.toArray⟩ : ByteArray).size = xo.length := size_mk xo
        have HXSZ := Lib.hid hxs; clear hxs
        go_wp2_with fail
        refine (writeString_any ab ab out fs ⟨xo.toArray⟩ W4 HA4.out (by rw [HXSZ.out]; omega) HS4.out).mono ?_
        rintro e W5 ⟨rfl, ha5, hb5, hk5⟩
        have ha5' : Ans ab ab W5 (out ++ xo) fs := by rw [toList_mk] at ha5; exact ha5
        have HD5 := Lib.hid (HD4.out.below hb5 hsz1)
        have HB5 := Lib.hid (HB4.out.trans (hb5.mono (Nat.le_of_lt hsz1)))
        have HF5 := Lib.hid (hk5 _ _ _ HF4.out)
        have HS5 := Lib.hid (Nat.le_trans HS4.out hb5.size)
        clear ha5 hb5 hk5 HD4 HB4 HF4 HA4 HS4
        obtain ⟨pv5, bv5, fv5, hp5, hbk5, hr5, hn5, hf5, hB5⟩ := ha5'
        have hfl5 : fs.length + xf.length ≤ 1000000000 := by have := HFL4.out; omega
        obtain ⟨v6, W6, hap, hf6, hg6⟩ := run_appF ab _ W5 fv5 _ fs xf hf5 HF5.out hfl5 HS5.out
        have c52 : W5.cell? ⟨ab, 2, none⟩ = some fv5 := by have := hbk5.cell 2; simpa using this
        have hbk6 := hbk5.grown hg6 (blk_ne_row hbk5 hf5 (by decide))
        have hr6 := World.ownsRow.kept hr5 hg6 (rows_ne hr5 hf5 (by decide))
        have c62 : W6.cell? ⟨ab, 2, none⟩ = some fv5 := by have := hbk6.cell 2; simpa using this
        have f62 := hbk6.frozen 2
        have hbk7 := hbk6.set 2 v6
        have hk7 : Keep (fun j => j = ab) W6 (W6.setCell ⟨ab, 2, none⟩ v6) := Keep.of_setCell _ _ _ _
        have hr7 := ownsRow_keepN hr6 hk7 (fun j e h => blk_ne_row hbk6 hr6 (by decide) (by rw [e, h]))
        have hf7 := ownsRow_keepN hf6 hk7 (fun j e h => blk_ne_row hbk6 hf6 (by decide) (by rw [e, h]))
        have hbl6 : Below ab W5 W6 := (Below.refl ab W5).grown hg6 HS5.out (fun k e => (World.ownsRow.lt hf5 k e).1)
        have hbl7 : Below ab W5 (W6.setCell ⟨ab, 2, none⟩ v6) := hbl6.setCell (p := ⟨ab, 2, none⟩) (Nat.le_refl _) _
        have HD7 := Lib.hid (HD5.out.below hbl7 hsz1)
        have HB7 := Lib.hid (HB5.out.trans (hbl7.mono (Nat.le_of_lt hsz1)))
        have HS7 := Lib.hid (Nat.le_trans HS5.out hbl7.size)
        have HA7 := Lib.hid (show Ans ab ab (W6.setCell ⟨ab, 2, none⟩ v6) (out ++ xo) (fs ++ xf) from ⟨pv5, bv5, v6, hp5, hbk7, hr7, hn5, hf7, hB5⟩)
        obtain ⟨fa5, fc5, hfv5, _⟩ := ownsRow_shapeN hf5
        obtain ⟨fn5, hfn5⟩ : ∃ n, fs.length = n := ⟨_, rfl⟩
        obtain ⟨fa6, fc6, hfv6, _⟩ := ownsRow_shapeN hf6
        obtain ⟨fn6, hfn6⟩ : ∃ n, (fs ++ xf).length = n := ⟨_, rfl⟩
        rw [hfn5] at hfv5
        rw [hfn6] at hfv6
        subst hfv5
        subst hfv6
        clear hbk5 hr5 hn5 hf5 hp5 hf6 hg6 hbk6 hr6 hbk7 hk7 hr7 hf7 hbl6 hbl7 HD5 HB5 HS5 HF5 hfn5 hfn6
        obtain ⟨W7, hW7⟩ : ∃ W, W6.setCell ⟨ab, 2, none⟩ (.slice fa6 fn6 fc6) = W := ⟨_, rfl⟩
        rw [hW7] at HD7 HB7 HS7 HA7
        have HAP := Lib.hid hap; clear hap
        rcases HIN.out.2.2.2 with ⟨h1, h2, h3⟩ | ⟨h1, h2, h3, h4⟩
        · subst h1
          subst h2
          have HXE := Lib.hid (show X = decR ps how (parts.drop q) xh xa (out ++ xo) (fs ++ xf) from by rw [HXN.out, if_pos rfl])
          have H3 := Lib.hid h3; clear h3
          go_wp2_with (at_builtin; refine wpList_appF rfl _ _ rfl rfl rfl rfl HAP.out ?_)
          go_roundw
          case rel =>
            have hiq := HQ.out
            have hin := HIN.out
            have h3 := H3.out
            refine ⟨q, out ++ xo, fs ++ xf, ⟨xh.toArray⟩, xa, by rw [← hiq]; go_num, by omega, HA7.out, HD7.out, HB7.out, HS7.out, by rw [toList_mk]; exact HXE.out, ?_, ?_, ?_⟩
            · rw [size_mk, List.length_append, HTQ.out, htk]; omega
            · rw [size_mk, List.length_append, HTQ.out, htk]; omega
            · rw [size_mk, HTQ.out, htk]; omega
          case measure => have := HQ.out; simp [intOf]; omega
        · subst h1
          subst h2
          have HXE := Lib.hid (show X = (out ++ xo, fs ++ xf, 17) from by rw [HXN.out, if_neg (by decide)])
          clear h4 h3
          go_wp2_with (at_builtin; refine wpList_appF rfl _ _ rfl rfl rfl rfl HAP.out ?_)
          obtain ⟨pvx, bvx, fvx, hpx, hbx, hrx⟩ := HA7.out
          have HBX := Lib.hid hbx; clear hbx hrx hpx
          have d2 : W7.drew.cell? ⟨ab, 2, none⟩ = some fvx := by have := HBX.out.cell 2; simpa using this
          have hS0 : W7.drew.cell? ⟨ab, 2, none⟩ = some fvx := d2
          refine wp_region_held_drew (S := fun w' => w'.cell? ⟨ab, 2, none⟩ = some fvx) (by kernel_rfl) hS0 (fun hHeld => ?_)
          clear hS0 d2 c52 c62 f62
          have HA8 := Lib.hid (HA7.out.below (Below.drew (Below.refl W7.heap.size W7)) rfl)
          have HB8 := Lib.hid (HB7.out.drew)
          have HS8 := Lib.hid (show ab ≤ W7.drew.heap.size from HS7.out)
          obtain ⟨W8, hW8⟩ : ∃ W, W7.drew = W := ⟨_, rfl⟩
          rw [hW8] at HA8 HB8 HS8 hHeld ⊢
          clear hW8 hW7 HA7 HB7 HS7 HBX
          refine wpAnyH_takeD (i := 0) (d := some 51) (v := ?_) rfl rfl (by kernel_rfl) (by kernel_rfl) (by kernel_rfl) (fun _ _ _ h => h) (Or.inl ⟨by rfl, ?_⟩) (by assumption) ?_
          rotate_left
          · intro w hSw; (try dsimp only at hSw); go_simp; all_goals (with_reducible rfl)
          simp only [Act.put, List.setIfInBounds_toArray, List.set_cons_zero, List.set_cons_succ]
          refine wpAnyH_takeD (i := 2) (d := some 53) (v := ?_) rfl rfl (by kernel_rfl) (by kernel_rfl) (by kernel_rfl) (fun _ _ _ h => h) (Or.inl ⟨by rfl, ?_⟩) (by assumption) ?_
          rotate_left
          · intro w hSw; (try dsimp only at hSw); go_simp; all_goals (with_reducible rfl)
          simp only [Act.put, List.setIfInBounds_toArray, List.set_cons_zero, List.set_cons_succ]
          refine wpAnyH_takeD (i := 3) (d := some 54) (v := ?_) rfl rfl (by kernel_rfl) (by kernel_rfl) (by kernel_rfl) (fun _ _ _ h => h) (Or.inl ⟨by rfl, ?_⟩) (by assumption) ?_
          rotate_left
          · intro w hSw; (try dsimp only at hSw); go_simp; all_goals (with_reducible rfl)
          simp only [Act.put, List.setIfInBounds_toArray, List.set_cons_zero, List.set_cons_succ]
          refine wpAnyH_takeD (i := 4) (d := some 55) (v := ?_) rfl rfl (by kernel_rfl) (by kernel_rfl) (by kernel_rfl) (fun _ _ _ h => h) (Or.inl ⟨by rfl, ?_⟩) (by assumption) ?_
          rotate_left
          · intro w hSw; (try dsimp only at hSw); go_simp; all_goals (with_reducible rfl)
          simp only [Act.put, List.setIfInBounds_toArray, List.set_cons_zero, List.set_cons_succ]
          refine wpAnyH_ready (rs := [1]) (by kernel_rfl) (by simp) ?_
          refine AllReadyH.cons (o := _) rfl (fun K hK => ?_) AllReadyH.nil
          go_simp
          refine (string_any ab ab _ _ W8 HA8.out HS8.out).mono ?_
          rintro e W9 ⟨rfl, hb9, pv9, bv9, fv9, hbk9, hf9, hc9⟩
          obtain rfl : fv9 = fvx := by have := hc9.symm.trans hHeld; simpa using this
          have d2 : W9.cell? ⟨ab, 2, none⟩ = some fv9 := by have := hbk9.cell 2; simpa using this
          have HB9 := Lib.hid (HB8.out.trans (hb9.mono (Nat.le_of_lt hsz1)))
          have HF9 := Lib.hid hf9
          clear hc9 hbk9 hf9 hb9 HA8 HB8 HS8
          go_wp2_with fail
          refine hK.out _ _ d2 (fun hHeld => ?_)
          clear hK K d2
          try simp only [Act.put, List.setIfInBounds_toArray, List.set_cons_zero, List.set_cons_succ]
          refine wpAnyH_takeD (i := 5) (d := some 6) (v := ?_) rfl rfl (by kernel_rfl) (by kernel_rfl) (by kernel_rfl) (fun _ _ _ h => h) (Or.inl ⟨by rfl, ?_⟩) (by assumption) ?_
          rotate_left
          · intro w hSw; (try dsimp only at hSw); go_simp; all_goals (with_reducible rfl)
          simp only [Act.put, List.setIfInBounds_toArray, List.set_cons_zero, List.set_cons_succ]
          refine wpAnyH_takeD (i := 6) (d := some 7) (v := ?_) rfl rfl (by kernel_rfl) (by kernel_rfl) (by kernel_rfl) (fun _ _ _ h => h) (Or.inl ⟨by rfl, ?_⟩) (by assumption) ?_
          rotate_left
          · intro w hSw; (try dsimp only at hSw); go_simp; all_goals (with_reducible rfl)
          simp only [Act.put, List.setIfInBounds_toArray, List.set_cons_zero, List.set_cons_succ]
          refine wpAnyH_takeD (i := 7) (d := some 8) (v := ?_) rfl rfl (by kernel_rfl) (by kernel_rfl) (by kernel_rfl) (fun _ _ _ h => h) (Or.inl ⟨by rfl, ?_⟩) (by assumption) ?_
          rotate_left
          · intro w hSw; (try dsimp only at hSw); go_simp; all_goals (with_reducible rfl)
          simp only [Act.put, List.setIfInBounds_toArray, List.set_cons_zero, List.set_cons_succ]
          refine wpAnyH_done (by kernel_rfl) ?_ _
          clear hHeld
          go_wp2
          go_ret3
          refine .inr ⟨HOK.out, _, fv9, _, _, _, HXE.out, rfl, toList_mk _, ?_, by rw [HDB.out]; exact HB9.out⟩
          exact ⟨HF9.out.1, by
            rcases HF9.out.2 with h | ⟨g, cap, cur, e1, e2, r⟩
            · exact .inl h
            · exact .inr ⟨g, cap, cur, e1, by have := HDB.out; omega, r⟩⟩
      · have i1 : ¬ (i : Int) < (np : Int) := by omega
        have hin : i = np := by omega
        have HXF := Lib.hid (show ∀ t l e, flushP how hb.data.toList at2 = (t, l, e) → X = (out ++ t, fs ++ l, e) from by
          intro t l e h
          rw [HX3.out, hin, ← HNP.out, List.drop_length, decR, h])
        clear hin HX3
        go_wp2_with fail
        refine (flush_any db cb how hb at2 wr HD3.out (by omega) (by omega)).mono ?_
        rintro e W4 ⟨v, t, l, er, hfl, rfl, hf4, hd4, hk4⟩
        have HXE := Lib.hid (HXF.out t l er hfl)
        have hll : l.length ≤ 1 ∧ t.length ≤ 3 := by
          have hbl : (badOf how).length ≤ 3 := by unfold badOf; split <;> simp [badB]
          unfold flushP at hfl
          by_cases h : hb.data.toList = []
          · rw [if_pos h] at hfl; cases hfl; simp
          · rw [if_neg h] at hfl
            by_cases h1 : how = 1
            · rw [if_pos h1] at hfl; cases hfl; simp
            · rw [if_neg h1] at hfl; cases hfl; exact ⟨by simp, hbl⟩
        have hcat : ¬ 9223372036854775807 < out.length + t.length := by omega
        have HA4 := Lib.hid (HA3.out.keep hk4 (fun j hj e => by omega))
        have HB4 := Lib.hid (show Below db w W4 from HB3.out.trans (hk4.below (by have := HSZ.out; omega) (fun j e => by omega)))
        have HS4 := Lib.hid (show ab ≤ W4.heap.size from by have := HSZ.out; have := hk4.size; omega)
        have HF4 := Lib.hid hf4
        obtain ⟨va, vcap, hv, _⟩ := ownsRow_shapeN hf4
        obtain ⟨vn, hvn⟩ : ∃ n, l.length = n := ⟨_, rfl⟩
        rw [hvn] at hv
        subst hv
        have HLL := Lib.hid hll
        clear hfl hf4 hd4 hk4 hll HA3 HB3 HD3 HSZ HC3 HXF hvn
        have hfl5 : fs.length + l.length ≤ 1000000000 := by have := HLL.out.1; omega
        have HFL := Lib.hid hfl5
        clear hb1 hb2 hb3 htl hfl5 i1
        go_wp2_with fail
        obtain ⟨pvx, bvx, fvx, hpx, hbx, hrx, hnx, hfx, hBx⟩ := HA4.out
        have d2 : W4.drew.cell? ⟨ab, 2, none⟩ = some fvx := by have := hbx.cell 2; simpa using this
        have hS0 : W4.drew.cell? ⟨ab, 2, none⟩ = some fvx := d2
        refine wp_region_held_drew (S := fun w' => w'.cell? ⟨ab, 2, none⟩ = some fvx) (by kernel_rfl) hS0 (fun hHeld => ?_)
        clear hS0 d2
        have HBX := Lib.hid (show Blk W4.drew ab _ _ from hbx)
        have HRX := Lib.hid (show W4.drew.ownsRow _ _ _ _ _ _ from hrx)
        have HNX := Lib.hid hnx
        have HFX := Lib.hid (show OwnF ab W4.drew _ _ from hfx)
        have HB5 := Lib.hid (HB4.out.drew)
        have HS5 := Lib.hid (show ab ≤ W4.drew.heap.size from HS4.out)
        have HF5 := Lib.hid (show OwnF _ W4.drew _ _ from HF4.out)
        obtain ⟨W5, hW5⟩ : ∃ W, W4.drew = W := ⟨_, rfl⟩
        rw [hW5] at HBX HRX HFX HB5 HS5 HF5 hHeld ⊢
        clear hW5 hbx hrx hnx hfx hpx hBx HA4 HB4 HS4 HF4
        refine wpAnyH_takeD (i := 0) (d := some 63) (v := ?_) rfl rfl (by kernel_rfl) (by kernel_rfl) (by kernel_rfl) (fun _ _ _ h => h) (Or.inl ⟨by rfl, ?_⟩) (by assumption) ?_
        rotate_left
        · intro w hSw; (try dsimp only at hSw); go_simp; all_goals (with_reducible rfl)
        simp only [Act.put, List.setIfInBounds_toArray, List.set_cons_zero, List.set_cons_succ]
        refine wpAnyH_takeD (i := 2) (d := some 65) (v := ?_) rfl rfl (by kernel_rfl) (by kernel_rfl) (by kernel_rfl) (fun _ _ _ h => h) (Or.inl ⟨by rfl, ?_⟩) (by assumption) ?_
        rotate_left
        · intro w hSw; (try dsimp only at hSw); go_simp; all_goals (with_reducible rfl)
        simp only [Act.put, List.setIfInBounds_toArray, List.set_cons_zero, List.set_cons_succ]
        refine wpAnyH_takeD (i := 4) (d := some 67) (v := ?_) rfl rfl (by kernel_rfl) (by kernel_rfl) (by kernel_rfl) (fun _ _ _ h => h) (Or.inl ⟨by rfl, ?_⟩) (by assumption) ?_
        rotate_left
        · intro w hSw; (try dsimp only at hSw); go_simp; all_goals (with_reducible rfl)
        simp only [Act.put, List.setIfInBounds_toArray, List.set_cons_zero, List.set_cons_succ]
        refine wpAnyH_takeD (i := 5) (d := some 68) (v := ?_) rfl rfl (by kernel_rfl) (by kernel_rfl) (by kernel_rfl) (fun _ _ _ h => h) (Or.inl ⟨by rfl, ?_⟩) (by assumption) ?_
        rotate_left
        · intro w hSw; (try dsimp only at hSw); go_simp; all_goals (with_reducible rfl)
        simp only [Act.put, List.setIfInBounds_toArray, List.set_cons_zero, List.set_cons_succ]
        refine wpAnyH_takeD (i := 6) (d := some 69) (v := ?_) rfl rfl (by kernel_rfl) (by kernel_rfl) (by kernel_rfl) (fun _ _ _ h => h) (Or.inl ⟨by rfl, ?_⟩) (by assumption) ?_
        rotate_left
        · intro w hSw; (try dsimp only at hSw); go_simp; all_goals (with_reducible rfl)
        simp only [Act.put, List.setIfInBounds_toArray, List.set_cons_zero, List.set_cons_succ]
        refine wpAnyH_takeD (i := 8) (d := some 71) (v := ?_) rfl rfl (by kernel_rfl) (by kernel_rfl) (by kernel_rfl) (fun _ _ _ h => h) (Or.inl ⟨by rfl, ?_⟩) (by assumption) ?_
        rotate_left
        · intro w hSw; (try dsimp only at hSw); go_simp; all_goals (with_reducible rfl)
        simp only [Act.put, List.setIfInBounds_toArray, List.set_cons_zero, List.set_cons_succ]
        have HFIN := Lib.hid (show ∀ (W : World) (v : Value) (gs : List (Int × Int)), OwnF ab W v gs → OwnF w.heap.size W v gs from by
          intro W v gs h
          exact ⟨h.1, by
            rcases h.2 with h | ⟨g, cap, cur, e1, e2, r⟩
            · exact .inl h
            · exact .inr ⟨g, cap, cur, e1, by have := HDB.out; omega, r⟩⟩)
        have HTX := Lib.hid (show ((⟨out.toArray⟩ : ByteArray) ++ (⟨t.toArray⟩ : ByteArray)).data.toList = out ++ t from by simp)
        refine wpAnyH_ready (rs := [1]) (by kernel_rfl) (by simp) ?_
        refine AllReadyH.cons (o := _) rfl (fun K hK => ?_) AllReadyH.nil
        · go_simp
          refine (string_of ab ab out pvx bvx fvx W5 HBX.out HRX.out HNX.out).mono ?_
          rintro e W6 ⟨rfl, hb6, hbk6, hk6⟩
          have d2 : W6.cell? ⟨ab, 2, none⟩ = some fvx := by have := hbk6.cell 2; simpa using this
          have HB6 := Lib.hid (HB5.out.trans (hb6.mono (Nat.le_of_lt hsz1)))
          have HS6 := Lib.hid (Nat.le_trans HS5.out hb6.size)
          obtain ⟨v7, W7, hap, hf7, hg7⟩ := run_appF ab _ W6 fvx _ fs l (hk6 _ _ _ HFX.out) (hk6 _ _ _ HF5.out) HFL.out HS6.out
          have hbk7 := hbk6.grown hg7 (blk_ne_row hbk6 (hk6 _ _ _ HFX.out) (by decide))
          have HB7 := Lib.hid (HB6.out.grown hg7 (by have := HS6.out; omega) (fun k e => by have := (World.ownsRow.lt (hk6 _ _ _ HFX.out) k e).1; omega))
          have d7 : W7.cell? ⟨ab, 2, none⟩ = some fvx := by have := hbk7.cell 2; simpa using this
          have HF7 := Lib.hid hf7
          clear hb6 hbk6 hk6 hf7 hg7 hbk7 HB5 HS5 HF5 HBX HRX HFX
          go_wp2_with fail
          refine hK.out _ _ d2 (fun hHeld => ?_)
          clear hK K
          try simp only [Act.put, List.setIfInBounds_toArray, List.set_cons_zero, List.set_cons_succ]
          refine wpAnyH_takeD (i := 3) (d := some 66) (v := ?_) rfl rfl (by kernel_rfl) (by kernel_rfl) (by kernel_rfl) (fun _ _ _ h => h) (Or.inl ⟨by rfl, ?_⟩) (by assumption) ?_
          rotate_left
          · intro w hSw; (try dsimp only at hSw); go_simp; all_goals (with_reducible rfl)
          simp only [Act.put, List.setIfInBounds_toArray, List.set_cons_zero, List.set_cons_succ]
          refine wpAnyH_ready (rs := [7]) (by kernel_rfl) (by simp) ?_
          refine AllReadyH.cons (o := _) rfl (fun K hK => ?_) AllReadyH.nil
          refine step_appF (d := some 70) rfl rfl _ _ rfl rfl rfl rfl hap ?_
          refine hK.out _ _ d7 (fun hHeld => ?_)
          clear hK K d2 d7
          try simp only [Act.put, List.setIfInBounds_toArray, List.set_cons_zero, List.set_cons_succ]
          refine wpAnyH_takeD (i := 9) (d := some 6) (v := ?_) rfl rfl (by kernel_rfl) (by kernel_rfl) (by kernel_rfl) (fun _ _ _ h => h) (Or.inl ⟨by rfl, ?_⟩) (by assumption) ?_
          rotate_left
          · intro w hSw; (try dsimp only at hSw); go_simp; all_goals (with_reducible rfl)
          simp only [Act.put, List.setIfInBounds_toArray, List.set_cons_zero, List.set_cons_succ]
          refine wpAnyH_takeD (i := 10) (d := some 7) (v := ?_) rfl rfl (by kernel_rfl) (by kernel_rfl) (by kernel_rfl) (fun _ _ _ h => h) (Or.inl ⟨by rfl, ?_⟩) (by assumption) ?_
          rotate_left
          · intro w hSw; (try dsimp only at hSw); go_simp; all_goals (with_reducible rfl)
          simp only [Act.put, List.setIfInBounds_toArray, List.set_cons_zero, List.set_cons_succ]
          refine wpAnyH_takeD (i := 11) (d := some 8) (v := ?_) rfl rfl (by kernel_rfl) (by kernel_rfl) (by kernel_rfl) (fun _ _ _ h => h) (Or.inl ⟨by rfl, ?_⟩) (by assumption) ?_
          rotate_left
          · intro w hSw; (try dsimp only at hSw); go_simp; all_goals (with_reducible rfl)
          simp only [Act.put, List.setIfInBounds_toArray, List.set_cons_zero, List.set_cons_succ]
          refine wpAnyH_done (by kernel_rfl) ?_ _
          clear hHeld hap
          go_wp2
          go_ret3
          exact .inr ⟨HOK.out, _, v7, _, _, _, HXE.out, rfl, HTX.out, HFIN.out _ _ _ HF7.out, by rw [HDB.out]; exact HB7.out⟩
  · go_wp2
    go_ret3
    exact .inl ⟨hno, rfl, rfl⟩

end Go.Proofs.YtplobpelhcagpaaDoor
