/-
  Layer 6 (trie): the iterator that goes through a table, block by block.
-/
import Derived.Test.YtkpkcimghkmkfaaTrM
import Derived.BigRegionIn
import Derived.Sort.QuietIn
import Derived.Sort.CutIn
namespace Go.Proofs.Ytkpkcimghkmkfaa
open Go.RowKit Go.Shelf
attribute [local go_sem] Oper.semAt_some

theorem getD_at {l : List Nat} {i d : Nat} (h : i < l.length) : l.getD i d = l[i] := by rw [List.getD_eq_getElem?_getD, List.getElem?_eq_getElem h, Option.getD_some]
theorem getD_out {l : List Nat} {i d : Nat} (h : ¬ i < l.length) : l.getD i d = d := by rw [List.getD_eq_getElem?_getD, List.getElem?_eq_none (by omega), Option.getD_none]

theorem wide_fn (f : FuncId) : Fence.wide.fn f := trivial
theorem mem_at {l : List Nat} {i d : Nat} (h : i < l.length) : l.getD i d ∈ l := by rw [getD_at h]; exact List.getElem_mem h

theorem gap_of {z : Int} {f : Nat → Int} (K : List Nat) (hK : ∀ a, a ∈ K ↔ a < 4352 ∧ apartB z f a = true) (hp : K.Pairwise (fun a b => a < b)) (i : Nat) (r : Nat) (h1 : i = 0 ∨ (i - 1 < K.length ∧ (K.getD (i - 1) 4352 + 1) * 256 ≤ r)) (h2 : r < (K.getD i 4352) * 256) : f r = z := by
  refine Classical.byContradiction fun e => ?_
  have hlt : r / 256 < 4352 := by
    by_cases e2 : i < K.length
    · have := ((hK _).1 (mem_at (d := 4352) e2)).1; omega
    · rw [getD_out e2] at h2; omega
  have hd : r / 256 * 256 + r % 256 = r := by omega
  have hm : r / 256 ∈ K := (hK _).2 ⟨hlt, apartB_iff.2 ⟨r % 256, Nat.mod_lt _ (by decide), by rw [hd]; exact e⟩⟩
  obtain ⟨j, hj, hje⟩ := List.getElem_of_mem hm
  have hp := List.pairwise_iff_getElem.1 hp
  by_cases e2 : i < K.length
  · rw [getD_at e2] at h2
    have hji : j < i := by
      rcases Nat.lt_trichotomy j i with e1 | e1 | e1
      · exact e1
      · subst e1; omega
      · have := hp i j e2 hj e1; omega
    rcases h1 with h1 | ⟨h0, h1⟩
    · omega
    · rw [getD_at h0] at h1
      by_cases e3 : j = i - 1
      · subst e3; omega
      · have := hp j (i - 1) hj h0 (by omega); omega
  · rcases h1 with h1 | ⟨h0, h1⟩
    · omega
    · rw [getD_at h0] at h1
      by_cases e3 : j = i - 1
      · subst e3; omega
      · have := hp j (i - 1) hj h0 (by omega); omega

theorem keysB_at {z : Int} {f : Nat → Int} {i : Nat} (h : i < (keysB z f).length) : (keysB z f).getD i 4352 ∈ keysB z f := mem_at h
theorem keysB_rise (z : Int) (f : Nat → Int) : (keysB z f).Pairwise (fun a b => a < b) := List.Pairwise.sublist List.filter_sublist List.pairwise_lt_range
theorem keysB_next {z : Int} {f : Nat → Int} {i : Nat} (h : i < (keysB z f).length) : (keysB z f).getD i 4352 + 1 ≤ (keysB z f).getD (i + 1) 4352 := by
  have h4 := (keysB_mem.1 (keysB_at h)).1
  by_cases e : i + 1 < (keysB z f).length
  · have := List.pairwise_iff_getElem.1 (keysB_rise z f) i (i + 1) h e (by omega)
    rw [getD_at h, getD_at e]; omega
  · rw [getD_out e]; omega
/-- between two blocks that are told nothing is apart -/
theorem keysB_gap {z : Int} {f : Nat → Int} {i : Nat} (h : i < (keysB z f).length) : ∀ r, ((keysB z f).getD i 4352 + 1) * 256 ≤ r → r < ((keysB z f).getD (i + 1) 4352) * 256 → f r = z :=
  fun r h1 h2 => gap_of (keysB z f) (fun _ => keysB_mem) (keysB_rise z f) (i + 1) r (.inr ⟨h, h1⟩) h2
theorem keysB_gap0 {z : Int} {f : Nat → Int} : ∀ r, r < ((keysB z f).getD 0 4352) * 256 → f r = z :=
  fun r h2 => gap_of (keysB z f) (fun _ => keysB_mem) (keysB_rise z f) 0 r (.inl rfl) h2

theorem wpAnyIn_takeD {F : Fence} {n : Nat} {P : Program} {ops : Array Oper} {Q : Exit → Act → World → Prop} {md : Region.Mode} {i : Nat} {oi : Oper} {d : Option Tmp} {v : Value} {fuel : Nat} {listed : Array Bool} {a : Act} {w : World} (hro : F.round = none) (hi : ops[i]? = some oi) (hd : oi.dst = d)
    (hs : Region.noSelect ops = true) (hf : Region.free md ops listed i = true) (hr : (Region.ready md ops listed).contains i = true)
    (hQ : ∀ c a w, Q (.panic c) (a.put d v) w → Q (.panic c) a w) (hy : YieldsFenced P ops oi v a)
    (h : wpAnyIn F n P md ops Q fuel (listed.setIfInBounds i true) (a.put d v) w) : wpAnyIn F n P md ops Q (fuel + 1) listed a w := by
  subst hd
  exact wpAnyIn_take hro hi hs hf hr hQ hy h
theorem j_drewN {J : List Pc → World → Prop} {B : Nat} (hJ : AbidesFrom B J) {xs : List Pc} {w : World} (h : J xs w) (n : Nat) : J xs (w.drewN n) := hJ xs w _ none h ⟨rfl, rfl, rfl, Nat.le_refl _, fun _ _ _ => rfl⟩ (by simp)
theorem SpAt.drewN {w : World} {B b m : Nat} {z : Int} {f : Nat → Int} (h : SpAt w B b m z f) (n : Nat) : SpAt (w.drewN n) B b m z f := ⟨h.box, h.blk, h.map⟩
theorem encP_of {x : Pc} {a c t : Int} (h1 : (x.1.val : Int) = a) (h2 : (x.2.1.val : Int) = c) (h3 : x.2.2 = t) : encP x = #[.agg #[.int .i32 a, .int .i32 c], .int .i64 t] := by unfold encP; rw [h1, h2, h3]

set_option maxRecDepth 100000 in
set_option maxHeartbeats 4000000 in
theorem spans_stops (P : Program) (hP : Is P) (n : Nat) (hn : 3 ≤ n) (B b m : Nat) (z : Int) (f : Nat → Int) (w : World) (hS : SpAt w B b m z f) :
    SeqStopsK Fence.wide n P 38 #[.pointer (some ⟨B, 0, none⟩)] encP KeepT (fun xs => Pieces z f 1114112 xs) (fun _ => True) 1114112 w := fun l J Jx W hW hJ hJx hY h0 => by
  have hf := Try.func38; rw [← hP] at hf
  have t3 := Try.underlying3; rw [← hP] at t3
  have a3 := Try.isAgg3; rw [← hP] at a3
  have z3 := Try.sizeOf3; rw [← hP] at z3
  have v3 := Try.zeroValue3; rw [← hP] at v3
  have t4 := Try.underlying4; rw [← hP] at t4
  have r21 := Try.runUnderlying21; rw [← hP] at r21
  have t21 := Try.underlying21; rw [← hP] at t21
  have a21 := Try.isAgg21; rw [← hP] at a21
  have z21 := Try.sizeOf21; rw [← hP] at z21
  have r23 := Try.runUnderlying23; rw [← hP] at r23
  have t23 := Try.underlying23; rw [← hP] at t23
  have a23 := Try.isAgg23; rw [← hP] at a23
  have z23 := Try.sizeOf23; rw [← hP] at z23
  have t56 := Try.underlying56; rw [← hP] at t56
  have a56 := Try.isAgg56; rw [← hP] at a56
  have z56 := Try.sizeOf56; rw [← hP] at z56
  have r58 := Try.runUnderlying58; rw [← hP] at r58
  have t60 := Try.underlying60; rw [← hP] at t60
  have v60 := arr_zero; rw [← hP] at v60
  have i60 : (P.info? 60).map (·.size) = some 256 := by rw [hP]; kernel_rfl
  have r79 := Try.runUnderlying79; rw [← hP] at r79
  have t79 := Try.underlying79; rw [← hP] at t79
  have c39 := Try.call39; rw [← hP] at c39
  have c40 := Try.call40; rw [← hP] at c40
  have hka := keys_any; rw [← hP] at hka
  have hsa := sorted_any; rw [← hP] at hsa
  have HKA := Lib.hid hka; clear hka
  have HSA := Lib.hid hsa; clear hsa
  have hP0 := Lib.hid hP; clear hP
  have hSW := hS.below hW rfl
  clear hS hW
  have hBc := hSW.box.cell
  have hb1 := hSW.blk.cell 1
  simp at hb1
  have HS := Lib.hid hSW; clear hSW
  have HY := Lib.hid hY; clear hY
  refine callsIn_of_wp hf rfl trivial ?_ rfl
  simp only [Try.ntmps38, List.size_toArray, List.length_cons, List.length_nil, Nat.reduceAdd, Nat.reduceSub, Array.replicate_succ, Array.replicate_zero, List.push_toArray, List.append_toArray, List.nil_append, List.cons_append]
  gi_wp2_with fail
  refine ⟨trivial, fun _ => by omega, ?_⟩
  refine (callsIn_wide.2 (HKA.out m W)).mono ?_
  rintro e w1 ⟨rfl, hc1, hb01⟩
  have hm1 := (HS.out.below hb01 rfl).map
  gi_wp2_with fail
  refine ⟨trivial, fun _ => by omega, ?_⟩
  refine (callsIn_wide.2 (HSA.out _ m z f w1 hc1 hm1)).mono ?_
  rintro e w2 ⟨v, rfl, hr2, hb12⟩
  have hbb2 : Below W.heap.size W w2 := hb01.trans (hb12.mono hb01.size)
  have HS2 := Lib.hid (HS.out.below hbb2 rfl)
  have hJ2 : J [] w2 := hJ [] W w2 none h0 (below_grown hbb2) (by simp)
  have hr3 : w2.ownsRow W.heap.size 21 1 v (keysB z f).length ((keysB z f).map encB) := by
    refine ⟨hr2.1, ?_⟩
    rcases hr2.2 with h1 | ⟨g, cap, cur, h0, h2, h3⟩
    · exact .inl h1
    · exact .inr ⟨g, cap, cur, h0, by have := hb01.size; omega, h3⟩
  have hbs2 := hbb2.size
  obtain ⟨ad, cap, rfl, hcap, hcapm, had⟩ : ∃ ad cap, v = .slice ad (keysB z f).length cap ∧ (keysB z f).length ≤ cap ∧ cap ≤ 9223372036854775807 ∧ ((ad = none ∧ cap = 0 ∧ keysB z f = []) ∨ ∃ g, ad = some ⟨g, 0, none⟩ ∧ W.heap.size ≤ g ∧ g < w2.heap.size) := by
    have h := ownsRow_shapeV (xs := (keysB z f).map encB) (by simpa using hr3)
    simpa using h
  have HR := Lib.hid hr3; clear hr3 hr2
  have hkl := keysB_len z f
  have HJ0 := Lib.hid hJ2; clear hJ2 h0 hc1 hm1
  gi_wp2_with fail
  gi_loopw [15] (fun s15 wr => ∃ (idx : Nat) (xs : List Pc), s15 = .int .i64 idx ∧ idx ≤ (keysB z f).length ∧ Pieces z f ((keysB z f).getD idx 4352 * 256) xs ∧ J xs wr ∧ SpAt wr B b m z f ∧
    wr.ownsRow W.heap.size 21 1 (.slice ad (keysB z f).length cap) (keysB z f).length ((keysB z f).map encB) ∧ W.heap.size ≤ wr.heap.size) (fun s15 _ => (keysB z f).length - (intOf s15).toNat)
  case atStart => exact ⟨0, [], rfl, Nat.zero_le _, (Pieces.nil z f).skip (Nat.zero_le _) (fun r _ h => keysB_gap0 r h), HJ0.out, HS2.out, HR.out, hbs2⟩
  case round =>
    obtain ⟨idx, xs, rfl, hidx, hPc, hJr, hSr, hRr, hsz⟩ := hrel
    have HPc := Lib.hid hPc; clear hPc
    have HJr := Lib.hid hJr; clear hJr
    have HSr := Lib.hid hSr; clear hSr
    by_cases hlt : idx < (keysB z f).length
    · rcases had with ⟨_, _, hnil⟩ | ⟨g, rfl, hg1, hg2⟩
      · rw [hnil] at hlt; simp at hlt
      have hcx : wr.cell? ⟨g, idx, none⟩ = some (.int .i32 ((keysB z f).getD idx 4352 : Nat)) := by
        rw [hRr.cellAt idx (by omega)]
        rw [List.getElem?_map, List.getElem?_eq_getElem hlt, getD_at hlt]
        rfl
      have hmem := keysB_at hlt
      obtain ⟨a, ha⟩ : ∃ a, (keysB z f).getD idx 4352 = a := ⟨_, rfl⟩
      rw [ha] at hcx hmem
      have ha4 := (keysB_mem.1 hmem).1
      have HRr := Lib.hid hRr; clear hRr
      obtain ⟨dv, hlook, hdv⟩ := MapAt.get HSr.out.map hmem
      rw [← hP0.out] at hlook
      have hBr := HSr.out.box.cell
      have hbr1 := HSr.out.blk.cell 1
      simp at hbr1
      have HDV := Lib.hid hdv; clear hdv
      gi_wp2_with (refine wpListIn_store_arr rfl 60 _ _ rfl wr.heap.size 60 _ _ rfl rfl (row_new wr _ _) ⟨_, Blk.new wr _ _⟩ i60 ?_; intro w3 hrow3 hT3 hk3; obtain ⟨hk3, hs3⟩ := below_new hk3)
      obtain ⟨q, hq⟩ : ∃ q, wr.heap.size = q := ⟨_, rfl⟩
      have hS3 := Lib.hid (HSr.out.below hk3 rfl)
      have hR3 := Lib.hid (ownsRow_keepT HRr.out rfl (KeepT.of_below hk3 rfl))
      have hJ3 := Lib.hid (hJ xs wr w3 none HJr.out (below_grown hk3) (by simp))
      have hsz3 : W.heap.size ≤ w3.heap.size := by have := hk3.size; omega
      rw [hq] at hrow3 hT3 hs3 ⊢
      clear hk3 HSr HRr HJr hBr hbr1 hcx hlook hq
      have hro : RowF .i64 w3 q 0 256 (fun j => f (a * 256 + j)) := hrow3.congr fun j hj => HDV.out j hj
      have HPa := Lib.hid (show Pieces z f (a * 256) xs by rw [← ha]; exact HPc.out)
      have HRO := Lib.hid hro; clear hro hrow3 HDV HPc
      have HT3 := Lib.hid hT3; clear hT3
      obtain rfl : P = Try.prog := hP0.out
      gi_loopw [6] (fun s6 wy => ∃ (i : Nat) (ys : List Pc), s6 = .int .i64 i ∧ i ≤ 256 ∧ Pieces z f (a * 256 + i) ys ∧ J ys wy ∧ SpAt wy B b m z f ∧
        wy.ownsRow W.heap.size 21 1 (.slice (some ⟨g, 0, none⟩) (keysB z f).length cap) (keysB z f).length ((keysB z f).map encB) ∧ W.heap.size ≤ wy.heap.size ∧
        RowF .i64 wy q 0 256 (fun j => f (a * 256 + j)) ∧ Typed wy q 60) (fun s6 _ => 256 - (intOf s6).toNat)
      case atStart => exact ⟨0, xs, rfl, by omega, HPa.out, hJ3.out, hS3.out, hR3.out, hsz3, HRO.out, HT3.out⟩
      case round =>
        obtain ⟨i, ys, rfl, hi, hPy, hJy, hSy, hRy, hszy, hrowy, hTy⟩ := hrel
        have HPy := Lib.hid hPy; clear hPy
        have HJy := Lib.hid hJy; clear hJy
        have HSy := Lib.hid hSy; clear hSy
        have HRy := Lib.hid hRy; clear hRy
        have HWy := Lib.hid hrowy; clear hrowy
        by_cases hi2 : i < 256
        · have i1 : (0 : Int) ≤ (i : Int) := by omega
          have i2 : (i : Int) < 256 := by omega
          gi_upto_region 7 with fail
          obtain ⟨wb, hwb⟩ : ∃ wb, wr = wb := ⟨_, rfl⟩
          rw [hwb] at HJy HSy HRy HWy hTy hszy ⊢
          clear hwb
          gi_loopw [7] (fun s7 wz => ∃ (k nd : Nat), s7 = .int .i64 k ∧ i ≤ k ∧ k ≤ 256 ∧ (∀ j, i ≤ j → j < k → f (a * 256 + j) = f (a * 256 + i)) ∧ wz = wb.drewN nd) (fun s7 _ => 256 - (intOf s7).toNat)
          case atStart => exact ⟨i, 0, rfl, Nat.le_refl _, by omega, fun j h1 h2 => by omega, rfl⟩
          case round =>
            obtain ⟨k, nd, rfl, hik, hk, hsame, hwz⟩ := hrel
            have HSM := Lib.hid hsame; clear hsame
            have hci : wr.cell? ⟨q, i, none⟩ = some (.int .i64 (f (a * 256 + i))) := by
              rw [hwz]; have := (HWy.out i hi2).1; rw [Nat.zero_add] at this; exact this
            have k1 : (0 : Int) ≤ (k : Int) := by omega
            have hckk : k < 256 → wr.cell? ⟨q, k, none⟩ = some (.int .i64 (f (a * 256 + k))) := by
              intro hk2
              rw [hwz]; have := (HWy.out k hk2).1; rw [Nat.zero_add] at this; exact this
            have HWZ := Lib.hid hwz; clear hwz
            obtain ⟨u, hu⟩ : ∃ u, f (a * 256 + k) = u := ⟨_, rfl⟩
            obtain ⟨t, ht⟩ : ∃ t, f (a * 256 + i) = t := ⟨_, rfl⟩
            rw [hu] at hckk
            rw [ht] at hci
            have HU := Lib.hid hu; clear hu
            have HT := Lib.hid ht; clear ht
            gi_upto_region 7 with fail
            gi_cut [38] from 71 (fun s38 wz => ∃ nq, s38 = .bool (decide (k < 256) && (u == t)) ∧ wz = wr.drewN nq)
            case first =>
              by_cases hk2 : k < 256
              · have k2 : (k : Int) < 256 := by omega
                have hck := hckk hk2
                gi_big_quiet_th (fail)
                gi_wp2
                gi_meet
                exact ⟨nq, by rw [decide_eq_true hk2, Bool.true_and], rfl⟩
              · have k2 : ¬ (k : Int) < 256 := by omega
                gi_big_quiet_th (fail)
                gi_wp2
                gi_meet
                exact ⟨nq, by rw [decide_eq_false hk2, Bool.false_and], rfl⟩
            case rest =>
              obtain ⟨nq, rfl, hwc⟩ := hcut
              by_cases hc : (decide (k < 256) && (u == t)) = true
              · rw [hc]
                rw [Bool.and_eq_true, decide_eq_true_eq, beq_iff_eq] at hc
                obtain ⟨hk2, hut⟩ := hc
                gi_wp2
                go_roundw
                case rel =>
                  refine ⟨k + 1, nd + nq, by go_num, by omega, by omega, fun j h1 h2 => ?_, by rw [HWZ.out, World.drewN_drewN]⟩
                  by_cases e : j = k
                  · rw [e, HU.out, HT.out, hut]
                  · exact HSM.out j h1 (by omega)
                case measure => simp [intOf]; omega
              · have hc' : (decide (k < 256) && (u == t)) = false := by simpa using hc
                rw [hc']
                have hik2 : i < k := by
                  rcases Nat.lt_or_ge i k with h | h
                  · exact h
                  · obtain rfl : k = i := by omega
                    exact absurd (by rw [← HU.out, ← HT.out]; simp [hi2]) hc
                have hwe : wc = wb.drewN (nd + nq) := by rw [hwc, HWZ.out, World.drewN_drewN]
                have hbc : Below wb.heap.size wb wc := by rw [hwe]; exact (Below.refl _ _).drewN _
                have hJc : J ys wc := by rw [hwe]; exact j_drewN hJ HJy.out _
                have hSc := HSy.out.below hbc rfl
                have hRc := Lib.hid (ownsRow_keepT HRy.out rfl (KeepT.of_below hbc rfl))
                have hszc : W.heap.size ≤ wc.heap.size := Nat.le_trans hszy hbc.size
                have hTc : Typed wc q 60 := by obtain ⟨cs, h⟩ := hTy; exact ⟨cs, h.below hbc h.lt⟩
                have hWc : RowF .i64 wc q 0 256 (fun j => f (a * 256 + j)) := HWy.out.block (by rw [hwe]; rfl)
                have hcq : wc.cell? ⟨q, i, none⟩ = some (.int .i64 t) := by have := (hWc i hi2).1; rw [Nat.zero_add] at this; rw [this]; show some (Value.int .i64 (f (a * 256 + i))) = _; rw [HT.out]
                have hBc2 := hSc.box.cell
                have hzc := hSc.blk.cell 0
                simp at hzc
                have HSc := Lib.hid hSc; clear hSc
                have HWc := Lib.hid hWc; clear hWc
                have HJc := Lib.hid hJc; clear hJc
                have HTc := Lib.hid hTc; clear hTc
                have HXc := Lib.hid hszc; clear hszc
                clear hwe hbc hwc hci hckk hTy HJy HSy HRy HWy hszy
                by_cases htz : t = z
                · have htz' : (t != z) = false := by rw [htz]; simp
                  gi_wp2_with fail
                  have hwf : ∀ f, Fence.wide.fn f := wide_fn
                  gi_big_quiet_th (fail)
                  clear hwf
                  gi_wp2
                  go_roundw
                  case rel =>
                    refine ⟨k, ys, rfl, hk, HPy.out.skip (by omega) (fun r h1 h2 => ?_), j_drewN hJ HJc.out _, HSc.out.drewN _, hRc.out, HXc.out, HWc.out, HTc.out⟩
                    have := HSM.out (r - a * 256) (by omega) (by omega)
                    rw [show a * 256 + (r - a * 256) = r by omega] at this
                    rw [this, HT.out, htz]
                  case measure => simp [intOf]; omega
                · have htz' : (t != z) = true := by simpa using htz
                  obtain ⟨x, hx1, hx2, hx3⟩ : ∃ x : Pc, x.1.val = a * 256 + i ∧ x.2.1.val = a * 256 + k - 1 ∧ x.2.2 = t := ⟨(⟨a * 256 + i, by omega⟩, ⟨a * 256 + k - 1, by omega⟩, t), rfl, rfl, rfl⟩
                  have hyy := HY.out ys x wc.drew (j_drewN hJ HJc.out 1) (by have := HPy.out.len; omega)
                  have hw1 : IntKind.i32.wrap (IntKind.i32.wrap ((a : Int) * 256) + IntKind.i32.wrap (i : Int)) = (a : Int) * 256 + (i : Int) := by
                    rw [IntWalk.i32_in ((a : Int) * 256) (by omega), IntWalk.i32_in (i : Int) (by omega), IntWalk.i32_in _ (by omega)]
                  have hw2 : IntKind.i32.wrap (IntKind.i32.wrap (IntKind.i32.wrap ((a : Int) * 256) + IntKind.i32.wrap (k : Int)) - 1) = (a : Int) * 256 + (k : Int) - 1 := by
                    rw [IntWalk.i32_in ((a : Int) * 256) (by omega), IntWalk.i32_in (k : Int) (by omega), IntWalk.i32_in ((a : Int) * 256 + (k : Int)) (by omega), IntWalk.i32_in _ (by omega)]
                  rw [encP_of (show (x.1.val : Int) = _ from (show (x.1.val : Int) = (a : Int) * 256 + (i : Int) by omega).trans hw1.symm) ((show (x.2.1.val : Int) = (a : Int) * 256 + (k : Int) - 1 by omega).trans hw2.symm) hx3] at hyy
                  clear hw1 hw2
                  obtain ⟨fn, tmps, assign, body, hy, hRn⟩ := hyy
                  have hRn' : RoundIn Fence.wide (n - 1) Try.prog l fn tmps assign body wc.drew (fun e W' => ∃ c : Bool, e = .returned (.bool c) ∧ ((c = true ∧ J (ys ++ [x]) W' ∧ KeepT wc.drew W') ∨ (c = false ∧ Jx (ys ++ [x]) W'))) :=
                    hRn.mono (by
                      rintro e W' (⟨rfl, h1, h2⟩ | ⟨rfl, h1⟩)
                      · exact ⟨true, rfl, .inl ⟨rfl, h1, h2⟩⟩
                      · exact ⟨false, rfl, .inr ⟨rfl, h1⟩⟩)
                  have HRn := Lib.hid hRn'; clear hRn' hRn
                  have HX := Lib.hid (And.intro hx1 (And.intro hx2 hx3)); clear hx1 hx2 hx3
                  gi_wp2_with fail
                  refine wpIn_region_any (by kernel_rfl) ?_
                  change wpAnyIn _ _ _ _ _ _ _ _ _ (World.drew _)
                  refine wpAnyIn_takeD (i := 0) (d := some 41) (v := ?_) rfl rfl rfl (by kernel_rfl) (by kernel_rfl) (by kernel_rfl) (fun _ _ _ h => h) ⟨Or.inl ⟨by rfl, ?_⟩, fun _ => rfl⟩ ?_
                  rotate_left
                  · intro w; go_simp; all_goals (with_reducible rfl)
                  simp only [Act.put, List.setIfInBounds_toArray, List.set_cons_zero, List.set_cons_succ]
                  refine wpAnyIn_takeD (i := 1) (d := some 42) (v := ?_) rfl rfl rfl (by kernel_rfl) (by kernel_rfl) (by kernel_rfl) (fun _ _ _ h => h) ⟨Or.inl ⟨by rfl, ?_⟩, fun _ => rfl⟩ ?_
                  rotate_left
                  · intro w; go_simp; all_goals (with_reducible rfl)
                  simp only [Act.put, List.setIfInBounds_toArray, List.set_cons_zero, List.set_cons_succ]
                  refine wpAnyIn_ready (rs := [2, 3]) (by kernel_rfl) (by simp) ?_
                  refine AllReadyIn.cons rfl (fun K hK => ?_) (AllReadyIn.cons rfl (fun K hK => ?_) AllReadyIn.nil)
                  · go_simp
                    refine hK _ _ ?_
                    clear hK K
                    refine wpAnyIn_ready (rs := [3]) (by kernel_rfl) (by simp) ?_
                    refine AllReadyIn.cons rfl (fun K hK => ?_) AllReadyIn.nil
                    go_simp
                    refine hK _ _ ?_
                    clear hK K
                    refine wpAnyIn_takeD (i := 4) (d := some 45) (v := ?_) rfl rfl rfl (by kernel_rfl) (by kernel_rfl) (by kernel_rfl) (fun _ _ _ h => h) ⟨Or.inl ⟨by rfl, ?_⟩, fun _ => rfl⟩ ?_
                    rotate_left
                    · intro w; go_simp; all_goals (with_reducible rfl)
                    simp only [Act.put, List.setIfInBounds_toArray, List.set_cons_zero, List.set_cons_succ]
                    refine wpAnyIn_takeD (i := 5) (d := some 46) (v := ?_) rfl rfl rfl (by kernel_rfl) (by kernel_rfl) (by kernel_rfl) (fun _ _ _ h => h) ⟨Or.inl ⟨by rfl, ?_⟩, fun _ => rfl⟩ ?_
                    rotate_left
                    · intro w; go_simp; all_goals (with_reducible rfl)
                    simp only [Act.put, List.setIfInBounds_toArray, List.set_cons_zero, List.set_cons_succ]
                    refine wpAnyIn_ready (rs := [6]) (by kernel_rfl) (by simp) ?_
                    refine AllReadyIn.cons rfl (fun K hK => ?_) AllReadyIn.nil
                    go_simp
                    refine hK _ _ ?_
                    clear hK K
                    refine wpAnyIn_takeD (i := 7) (d := some 48) (v := ?_) rfl rfl rfl (by kernel_rfl) (by kernel_rfl) (by kernel_rfl) (fun _ _ _ h => h) ⟨Or.inl ⟨by rfl, ?_⟩, fun _ => rfl⟩ ?_
                    rotate_left
                    · intro w; go_simp; all_goals (with_reducible rfl)
                    simp only [Act.put, List.setIfInBounds_toArray, List.set_cons_zero, List.set_cons_succ]
                    refine wpAnyIn_takeD (i := 8) (d := some 49) (v := ?_) rfl rfl rfl (by kernel_rfl) (by kernel_rfl) (by kernel_rfl) (fun _ _ _ h => h) ⟨Or.inl ⟨by rfl, ?_⟩, fun _ => rfl⟩ ?_
                    rotate_left
                    · intro w; go_simp; all_goals (with_reducible rfl)
                    simp only [Act.put, List.setIfInBounds_toArray, List.set_cons_zero, List.set_cons_succ]
                    refine wpAnyIn_takeD (i := 9) (d := some 50) (v := ?_) rfl rfl rfl (by kernel_rfl) (by kernel_rfl) (by kernel_rfl) (fun _ _ _ h => h) ⟨Or.inl ⟨by rfl, ?_⟩, fun _ => rfl⟩ ?_
                    rotate_left
                    · intro w; go_simp; all_goals (with_reducible rfl)
                    simp only [Act.put, List.setIfInBounds_toArray, List.set_cons_zero, List.set_cons_succ]
                    refine wpAnyIn_takeD (i := 10) (d := some 51) (v := ?_) rfl rfl rfl (by kernel_rfl) (by kernel_rfl) (by kernel_rfl) (fun _ _ _ h => h) ⟨Or.inl ⟨by rfl, ?_⟩, fun _ => rfl⟩ ?_
                    rotate_left
                    · intro w; go_simp; all_goals (with_reducible rfl)
                    simp only [Act.put, List.setIfInBounds_toArray, List.set_cons_zero, List.set_cons_succ]
                    refine wpAnyIn_takeD (i := 11) (d := some 52) (v := ?_) rfl rfl rfl (by kernel_rfl) (by kernel_rfl) (by kernel_rfl) (fun _ _ _ h => h) ⟨Or.inl ⟨by rfl, ?_⟩, fun _ => rfl⟩ ?_
                    rotate_left
                    · intro w; go_simp; all_goals (with_reducible rfl)
                    simp only [Act.put, List.setIfInBounds_toArray, List.set_cons_zero, List.set_cons_succ]
                    refine wpAnyIn_takeD (i := 12) (d := some 53) (v := ?_) rfl rfl rfl (by kernel_rfl) (by kernel_rfl) (by kernel_rfl) (fun _ _ _ h => h) ⟨Or.inl ⟨by rfl, ?_⟩, fun _ => rfl⟩ ?_
                    rotate_left
                    · intro w; go_simp; all_goals (with_reducible rfl)
                    simp only [Act.put, List.setIfInBounds_toArray, List.set_cons_zero, List.set_cons_succ]
                    refine wpAnyIn_takeD (i := 13) (d := some 54) (v := ?_) rfl rfl rfl (by kernel_rfl) (by kernel_rfl) (by kernel_rfl) (fun _ _ _ h => h) ⟨Or.inl ⟨by rfl, ?_⟩, fun _ => rfl⟩ ?_
                    rotate_left
                    · intro w; go_simp; all_goals (with_reducible rfl)
                    simp only [Act.put, List.setIfInBounds_toArray, List.set_cons_zero, List.set_cons_succ]
                    refine wpAnyIn_takeD (i := 14) (d := some 55) (v := ?_) rfl rfl rfl (by kernel_rfl) (by kernel_rfl) (by kernel_rfl) (fun _ _ _ h => h) ⟨Or.inl ⟨by rfl, ?_⟩, fun _ => rfl⟩ ?_
                    rotate_left
                    · intro w; go_simp; all_goals (with_reducible rfl)
                    simp only [Act.put, List.setIfInBounds_toArray, List.set_cons_zero, List.set_cons_succ]
                    refine wpAnyIn_takeD (i := 15) (d := some 56) (v := ?_) rfl rfl rfl (by kernel_rfl) (by kernel_rfl) (by kernel_rfl) (fun _ _ _ h => h) ⟨Or.inl ⟨by rfl, ?_⟩, fun _ => rfl⟩ ?_
                    rotate_left
                    · intro w; go_simp; all_goals (with_reducible rfl)
                    simp only [Act.put, List.setIfInBounds_toArray, List.set_cons_zero, List.set_cons_succ]
                    refine wpAnyIn_takeD (i := 16) (d := some 57) (v := ?_) rfl rfl rfl (by kernel_rfl) (by kernel_rfl) (by kernel_rfl) (fun _ _ _ h => h) ⟨Or.inl ⟨by rfl, ?_⟩, fun _ => rfl⟩ ?_
                    rotate_left
                    · intro w; go_simp; all_goals (with_reducible rfl)
                    simp only [Act.put, List.setIfInBounds_toArray, List.set_cons_zero, List.set_cons_succ]
                    refine wpAnyIn_takeD (i := 17) (d := some 58) (v := ?_) rfl rfl rfl (by kernel_rfl) (by kernel_rfl) (by kernel_rfl) (fun _ _ _ h => h) ⟨Or.inl ⟨by rfl, ?_⟩, fun _ => rfl⟩ ?_
                    rotate_left
                    · intro w; go_simp; all_goals (with_reducible rfl)
                    simp only [Act.put, List.setIfInBounds_toArray, List.set_cons_zero, List.set_cons_succ]
                    refine wpAnyIn_takeD (i := 18) (d := some 59) (v := ?_) rfl rfl rfl (by kernel_rfl) (by kernel_rfl) (by kernel_rfl) (fun _ _ _ h => h) ⟨Or.inl ⟨by rfl, ?_⟩, fun _ => rfl⟩ ?_
                    rotate_left
                    · intro w; go_simp; all_goals (with_reducible rfl)
                    simp only [Act.put, List.setIfInBounds_toArray, List.set_cons_zero, List.set_cons_succ]
                    refine wpAnyIn_takeD (i := 19) (d := some 60) (v := ?_) rfl rfl rfl (by kernel_rfl) (by kernel_rfl) (by kernel_rfl) (fun _ _ _ h => h) ⟨Or.inl ⟨by rfl, ?_⟩, fun _ => rfl⟩ ?_
                    rotate_left
                    · intro w; go_simp; all_goals (with_reducible rfl)
                    simp only [Act.put, List.setIfInBounds_toArray, List.set_cons_zero, List.set_cons_succ]
                    refine wpAnyIn_takeD (i := 20) (d := some 61) (v := ?_) rfl rfl rfl (by kernel_rfl) (by kernel_rfl) (by kernel_rfl) (fun _ _ _ h => h) ⟨Or.inl ⟨by rfl, ?_⟩, fun _ => rfl⟩ ?_
                    rotate_left
                    · intro w; go_simp; all_goals (with_reducible rfl)
                    simp only [Act.put, List.setIfInBounds_toArray, List.set_cons_zero, List.set_cons_succ]
                    refine wpAnyIn_takeD (i := 21) (d := some 62) (v := ?_) rfl rfl rfl (by kernel_rfl) (by kernel_rfl) (by kernel_rfl) (fun _ _ _ h => h) ⟨Or.inl ⟨by rfl, ?_⟩, fun _ => rfl⟩ ?_
                    rotate_left
                    · intro w; go_simp; all_goals (with_reducible rfl)
                    simp only [Act.put, List.setIfInBounds_toArray, List.set_cons_zero, List.set_cons_succ]
                    refine wpAnyIn_takeD (i := 22) (d := some 63) (v := ?_) rfl rfl rfl (by kernel_rfl) (by kernel_rfl) (by kernel_rfl) (fun _ _ _ h => h) ⟨Or.inl ⟨by rfl, ?_⟩, fun _ => rfl⟩ ?_
                    rotate_left
                    · intro w; go_simp; all_goals (with_reducible rfl)
                    simp only [Act.put, List.setIfInBounds_toArray, List.set_cons_zero, List.set_cons_succ]
                    refine wpAnyIn_takeD (i := 23) (d := some 64) (v := ?_) rfl rfl rfl (by kernel_rfl) (by kernel_rfl) (by kernel_rfl) (fun _ _ _ h => h) ⟨Or.inl ⟨by rfl, ?_⟩, fun _ => rfl⟩ ?_
                    rotate_left
                    · intro w; go_simp; all_goals (with_reducible rfl)
                    simp only [Act.put, List.setIfInBounds_toArray, List.set_cons_zero, List.set_cons_succ]
                    refine wpAnyIn_ready (rs := [24]) (by kernel_rfl) (by simp) ?_
                    refine AllReadyIn.cons rfl (fun K hK => ?_) AllReadyIn.nil
                    go_simp
                    refine hK _ _ ?_
                    clear hK K
                    refine wpAnyIn_ready (rs := [25]) (by kernel_rfl) (by simp) ?_
                    refine AllReadyIn.cons rfl (fun K hK => ?_) AllReadyIn.nil
                    go_simp
                    refine ⟨fun _ => by omega, HRn.out.mono ?_⟩
                    rintro e W5 ⟨c, rfl, hor⟩
                    dsimp only
                    refine hK _ _ ?_
                    clear hK K
                    try simp only [Act.put, List.setIfInBounds_toArray, List.set_cons_zero, List.set_cons_succ]
                    refine wpAnyIn_takeD (i := 26) (d := some 67) (v := ?_) rfl rfl rfl (by kernel_rfl) (by kernel_rfl) (by kernel_rfl) (fun _ _ _ h => h) ⟨Or.inl ⟨by rfl, ?_⟩, fun _ => rfl⟩ ?_
                    rotate_left
                    · intro w; go_simp; all_goals (with_reducible rfl)
                    simp only [Act.put, List.setIfInBounds_toArray, List.set_cons_zero, List.set_cons_succ]
                    refine wpAnyIn_takeD (i := 27) (d := some 68) (v := ?_) rfl rfl rfl (by kernel_rfl) (by kernel_rfl) (by kernel_rfl) (fun _ _ _ h => h) ⟨Or.inl ⟨by rfl, ?_⟩, fun _ => rfl⟩ ?_
                    rotate_left
                    · intro w; go_simp; all_goals (with_reducible rfl)
                    simp only [Act.put, List.setIfInBounds_toArray, List.set_cons_zero, List.set_cons_succ]
                    refine wpAnyIn_done (by kernel_rfl) ?_ _
                    rcases hor with ⟨rfl, hJ5, hk5⟩ | ⟨rfl, hJx5⟩
                    · gi_wp2
                      go_roundw
                      case rel =>
                        have hk5' : KeepT wc W5 := ⟨hk5.size, hk5.same⟩
                        have ht5 := HTc.out.block rfl hk5'
                        refine ⟨k, ys ++ [x], rfl, hk, HPy.out.add x HX.out.1 (by have := HX.out.2.1; omega) (by omega) (by rw [HX.out.2.2]; exact htz) (fun r h1 h2 => ?_), hJ5, HSc.out.keepT hk5', ownsRow_keepT hRc.out rfl hk5', Nat.le_trans HXc.out hk5.size, HWc.out.block ht5, ?_⟩
                        · have := HSM.out (r - a * 256) (by omega) (by omega)
                          rw [show a * 256 + (r - a * 256) = r by omega] at this
                          rw [this, HT.out, HX.out.2.2]
                        · obtain ⟨cs, hcs⟩ := HTc.out
                          exact ⟨cs, ht5.trans hcs⟩
                      case measure => simp [intOf]; omega
                    · gi_wp2
                      refine bodyPost_ret (results_none rfl _ _ _) rfl ?_
                      exact ⟨⟨_, rfl⟩, .inr ⟨ys ++ [x], trivial, hJx5⟩⟩
                  · go_simp
                    refine hK _ _ ?_
                    clear hK K
                    refine wpAnyIn_takeD (i := 4) (d := some 45) (v := ?_) rfl rfl rfl (by kernel_rfl) (by kernel_rfl) (by kernel_rfl) (fun _ _ _ h => h) ⟨Or.inl ⟨by rfl, ?_⟩, fun _ => rfl⟩ ?_
                    rotate_left
                    · intro w; go_simp; all_goals (with_reducible rfl)
                    simp only [Act.put, List.setIfInBounds_toArray, List.set_cons_zero, List.set_cons_succ]
                    refine wpAnyIn_takeD (i := 5) (d := some 46) (v := ?_) rfl rfl rfl (by kernel_rfl) (by kernel_rfl) (by kernel_rfl) (fun _ _ _ h => h) ⟨Or.inl ⟨by rfl, ?_⟩, fun _ => rfl⟩ ?_
                    rotate_left
                    · intro w; go_simp; all_goals (with_reducible rfl)
                    simp only [Act.put, List.setIfInBounds_toArray, List.set_cons_zero, List.set_cons_succ]
                    refine wpAnyIn_ready (rs := [2, 6]) (by kernel_rfl) (by simp) ?_
                    refine AllReadyIn.cons rfl (fun K hK => ?_) (AllReadyIn.cons rfl (fun K hK => ?_) AllReadyIn.nil)
                    · go_simp
                      refine hK _ _ ?_
                      clear hK K
                      refine wpAnyIn_ready (rs := [6]) (by kernel_rfl) (by simp) ?_
                      refine AllReadyIn.cons rfl (fun K hK => ?_) AllReadyIn.nil
                      go_simp
                      refine hK _ _ ?_
                      clear hK K
                      refine wpAnyIn_takeD (i := 7) (d := some 48) (v := ?_) rfl rfl rfl (by kernel_rfl) (by kernel_rfl) (by kernel_rfl) (fun _ _ _ h => h) ⟨Or.inl ⟨by rfl, ?_⟩, fun _ => rfl⟩ ?_
                      rotate_left
                      · intro w; go_simp; all_goals (with_reducible rfl)
                      simp only [Act.put, List.setIfInBounds_toArray, List.set_cons_zero, List.set_cons_succ]
                      refine wpAnyIn_takeD (i := 8) (d := some 49) (v := ?_) rfl rfl rfl (by kernel_rfl) (by kernel_rfl) (by kernel_rfl) (fun _ _ _ h => h) ⟨Or.inl ⟨by rfl, ?_⟩, fun _ => rfl⟩ ?_
                      rotate_left
                      · intro w; go_simp; all_goals (with_reducible rfl)
                      simp only [Act.put, List.setIfInBounds_toArray, List.set_cons_zero, List.set_cons_succ]
                      refine wpAnyIn_takeD (i := 9) (d := some 50) (v := ?_) rfl rfl rfl (by kernel_rfl) (by kernel_rfl) (by kernel_rfl) (fun _ _ _ h => h) ⟨Or.inl ⟨by rfl, ?_⟩, fun _ => rfl⟩ ?_
                      rotate_left
                      · intro w; go_simp; all_goals (with_reducible rfl)
                      simp only [Act.put, List.setIfInBounds_toArray, List.set_cons_zero, List.set_cons_succ]
                      refine wpAnyIn_takeD (i := 10) (d := some 51) (v := ?_) rfl rfl rfl (by kernel_rfl) (by kernel_rfl) (by kernel_rfl) (fun _ _ _ h => h) ⟨Or.inl ⟨by rfl, ?_⟩, fun _ => rfl⟩ ?_
                      rotate_left
                      · intro w; go_simp; all_goals (with_reducible rfl)
                      simp only [Act.put, List.setIfInBounds_toArray, List.set_cons_zero, List.set_cons_succ]
                      refine wpAnyIn_takeD (i := 11) (d := some 52) (v := ?_) rfl rfl rfl (by kernel_rfl) (by kernel_rfl) (by kernel_rfl) (fun _ _ _ h => h) ⟨Or.inl ⟨by rfl, ?_⟩, fun _ => rfl⟩ ?_
                      rotate_left
                      · intro w; go_simp; all_goals (with_reducible rfl)
                      simp only [Act.put, List.setIfInBounds_toArray, List.set_cons_zero, List.set_cons_succ]
                      refine wpAnyIn_takeD (i := 12) (d := some 53) (v := ?_) rfl rfl rfl (by kernel_rfl) (by kernel_rfl) (by kernel_rfl) (fun _ _ _ h => h) ⟨Or.inl ⟨by rfl, ?_⟩, fun _ => rfl⟩ ?_
                      rotate_left
                      · intro w; go_simp; all_goals (with_reducible rfl)
                      simp only [Act.put, List.setIfInBounds_toArray, List.set_cons_zero, List.set_cons_succ]
                      refine wpAnyIn_takeD (i := 13) (d := some 54) (v := ?_) rfl rfl rfl (by kernel_rfl) (by kernel_rfl) (by kernel_rfl) (fun _ _ _ h => h) ⟨Or.inl ⟨by rfl, ?_⟩, fun _ => rfl⟩ ?_
                      rotate_left
                      · intro w; go_simp; all_goals (with_reducible rfl)
                      simp only [Act.put, List.setIfInBounds_toArray, List.set_cons_zero, List.set_cons_succ]
                      refine wpAnyIn_takeD (i := 14) (d := some 55) (v := ?_) rfl rfl rfl (by kernel_rfl) (by kernel_rfl) (by kernel_rfl) (fun _ _ _ h => h) ⟨Or.inl ⟨by rfl, ?_⟩, fun _ => rfl⟩ ?_
                      rotate_left
                      · intro w; go_simp; all_goals (with_reducible rfl)
                      simp only [Act.put, List.setIfInBounds_toArray, List.set_cons_zero, List.set_cons_succ]
                      refine wpAnyIn_takeD (i := 15) (d := some 56) (v := ?_) rfl rfl rfl (by kernel_rfl) (by kernel_rfl) (by kernel_rfl) (fun _ _ _ h => h) ⟨Or.inl ⟨by rfl, ?_⟩, fun _ => rfl⟩ ?_
                      rotate_left
                      · intro w; go_simp; all_goals (with_reducible rfl)
                      simp only [Act.put, List.setIfInBounds_toArray, List.set_cons_zero, List.set_cons_succ]
                      refine wpAnyIn_takeD (i := 16) (d := some 57) (v := ?_) rfl rfl rfl (by kernel_rfl) (by kernel_rfl) (by kernel_rfl) (fun _ _ _ h => h) ⟨Or.inl ⟨by rfl, ?_⟩, fun _ => rfl⟩ ?_
                      rotate_left
                      · intro w; go_simp; all_goals (with_reducible rfl)
                      simp only [Act.put, List.setIfInBounds_toArray, List.set_cons_zero, List.set_cons_succ]
                      refine wpAnyIn_takeD (i := 17) (d := some 58) (v := ?_) rfl rfl rfl (by kernel_rfl) (by kernel_rfl) (by kernel_rfl) (fun _ _ _ h => h) ⟨Or.inl ⟨by rfl, ?_⟩, fun _ => rfl⟩ ?_
                      rotate_left
                      · intro w; go_simp; all_goals (with_reducible rfl)
                      simp only [Act.put, List.setIfInBounds_toArray, List.set_cons_zero, List.set_cons_succ]
                      refine wpAnyIn_takeD (i := 18) (d := some 59) (v := ?_) rfl rfl rfl (by kernel_rfl) (by kernel_rfl) (by kernel_rfl) (fun _ _ _ h => h) ⟨Or.inl ⟨by rfl, ?_⟩, fun _ => rfl⟩ ?_
                      rotate_left
                      · intro w; go_simp; all_goals (with_reducible rfl)
                      simp only [Act.put, List.setIfInBounds_toArray, List.set_cons_zero, List.set_cons_succ]
                      refine wpAnyIn_takeD (i := 19) (d := some 60) (v := ?_) rfl rfl rfl (by kernel_rfl) (by kernel_rfl) (by kernel_rfl) (fun _ _ _ h => h) ⟨Or.inl ⟨by rfl, ?_⟩, fun _ => rfl⟩ ?_
                      rotate_left
                      · intro w; go_simp; all_goals (with_reducible rfl)
                      simp only [Act.put, List.setIfInBounds_toArray, List.set_cons_zero, List.set_cons_succ]
                      refine wpAnyIn_takeD (i := 20) (d := some 61) (v := ?_) rfl rfl rfl (by kernel_rfl) (by kernel_rfl) (by kernel_rfl) (fun _ _ _ h => h) ⟨Or.inl ⟨by rfl, ?_⟩, fun _ => rfl⟩ ?_
                      rotate_left
                      · intro w; go_simp; all_goals (with_reducible rfl)
                      simp only [Act.put, List.setIfInBounds_toArray, List.set_cons_zero, List.set_cons_succ]
                      refine wpAnyIn_takeD (i := 21) (d := some 62) (v := ?_) rfl rfl rfl (by kernel_rfl) (by kernel_rfl) (by kernel_rfl) (fun _ _ _ h => h) ⟨Or.inl ⟨by rfl, ?_⟩, fun _ => rfl⟩ ?_
                      rotate_left
                      · intro w; go_simp; all_goals (with_reducible rfl)
                      simp only [Act.put, List.setIfInBounds_toArray, List.set_cons_zero, List.set_cons_succ]
                      refine wpAnyIn_takeD (i := 22) (d := some 63) (v := ?_) rfl rfl rfl (by kernel_rfl) (by kernel_rfl) (by kernel_rfl) (fun _ _ _ h => h) ⟨Or.inl ⟨by rfl, ?_⟩, fun _ => rfl⟩ ?_
                      rotate_left
                      · intro w; go_simp; all_goals (with_reducible rfl)
                      simp only [Act.put, List.setIfInBounds_toArray, List.set_cons_zero, List.set_cons_succ]
                      refine wpAnyIn_takeD (i := 23) (d := some 64) (v := ?_) rfl rfl rfl (by kernel_rfl) (by kernel_rfl) (by kernel_rfl) (fun _ _ _ h => h) ⟨Or.inl ⟨by rfl, ?_⟩, fun _ => rfl⟩ ?_
                      rotate_left
                      · intro w; go_simp; all_goals (with_reducible rfl)
                      simp only [Act.put, List.setIfInBounds_toArray, List.set_cons_zero, List.set_cons_succ]
                      refine wpAnyIn_ready (rs := [24]) (by kernel_rfl) (by simp) ?_
                      refine AllReadyIn.cons rfl (fun K hK => ?_) AllReadyIn.nil
                      go_simp
                      refine hK _ _ ?_
                      clear hK K
                      refine wpAnyIn_ready (rs := [25]) (by kernel_rfl) (by simp) ?_
                      refine AllReadyIn.cons rfl (fun K hK => ?_) AllReadyIn.nil
                      go_simp
                      refine ⟨fun _ => by omega, HRn.out.mono ?_⟩
                      rintro e W5 ⟨c, rfl, hor⟩
                      dsimp only
                      refine hK _ _ ?_
                      clear hK K
                      try simp only [Act.put, List.setIfInBounds_toArray, List.set_cons_zero, List.set_cons_succ]
                      refine wpAnyIn_takeD (i := 26) (d := some 67) (v := ?_) rfl rfl rfl (by kernel_rfl) (by kernel_rfl) (by kernel_rfl) (fun _ _ _ h => h) ⟨Or.inl ⟨by rfl, ?_⟩, fun _ => rfl⟩ ?_
                      rotate_left
                      · intro w; go_simp; all_goals (with_reducible rfl)
                      simp only [Act.put, List.setIfInBounds_toArray, List.set_cons_zero, List.set_cons_succ]
                      refine wpAnyIn_takeD (i := 27) (d := some 68) (v := ?_) rfl rfl rfl (by kernel_rfl) (by kernel_rfl) (by kernel_rfl) (fun _ _ _ h => h) ⟨Or.inl ⟨by rfl, ?_⟩, fun _ => rfl⟩ ?_
                      rotate_left
                      · intro w; go_simp; all_goals (with_reducible rfl)
                      simp only [Act.put, List.setIfInBounds_toArray, List.set_cons_zero, List.set_cons_succ]
                      refine wpAnyIn_done (by kernel_rfl) ?_ _
                      rcases hor with ⟨rfl, hJ5, hk5⟩ | ⟨rfl, hJx5⟩
                      · gi_wp2
                        go_roundw
                        case rel =>
                          have hk5' : KeepT wc W5 := ⟨hk5.size, hk5.same⟩
                          have ht5 := HTc.out.block rfl hk5'
                          refine ⟨k, ys ++ [x], rfl, hk, HPy.out.add x HX.out.1 (by have := HX.out.2.1; omega) (by omega) (by rw [HX.out.2.2]; exact htz) (fun r h1 h2 => ?_), hJ5, HSc.out.keepT hk5', ownsRow_keepT hRc.out rfl hk5', Nat.le_trans HXc.out hk5.size, HWc.out.block ht5, ?_⟩
                          · have := HSM.out (r - a * 256) (by omega) (by omega)
                            rw [show a * 256 + (r - a * 256) = r by omega] at this
                            rw [this, HT.out, HX.out.2.2]
                          · obtain ⟨cs, hcs⟩ := HTc.out
                            exact ⟨cs, ht5.trans hcs⟩
                        case measure => simp [intOf]; omega
                      · gi_wp2
                        refine bodyPost_ret (results_none rfl _ _ _) rfl ?_
                        exact ⟨⟨_, rfl⟩, .inr ⟨ys ++ [x], trivial, hJx5⟩⟩
                    · go_simp
                      refine hK _ _ ?_
                      clear hK K
                      refine wpAnyIn_ready (rs := [2]) (by kernel_rfl) (by simp) ?_
                      refine AllReadyIn.cons rfl (fun K hK => ?_) AllReadyIn.nil
                      go_simp
                      refine hK _ _ ?_
                      clear hK K
                      refine wpAnyIn_takeD (i := 7) (d := some 48) (v := ?_) rfl rfl rfl (by kernel_rfl) (by kernel_rfl) (by kernel_rfl) (fun _ _ _ h => h) ⟨Or.inl ⟨by rfl, ?_⟩, fun _ => rfl⟩ ?_
                      rotate_left
                      · intro w; go_simp; all_goals (with_reducible rfl)
                      simp only [Act.put, List.setIfInBounds_toArray, List.set_cons_zero, List.set_cons_succ]
                      refine wpAnyIn_takeD (i := 8) (d := some 49) (v := ?_) rfl rfl rfl (by kernel_rfl) (by kernel_rfl) (by kernel_rfl) (fun _ _ _ h => h) ⟨Or.inl ⟨by rfl, ?_⟩, fun _ => rfl⟩ ?_
                      rotate_left
                      · intro w; go_simp; all_goals (with_reducible rfl)
                      simp only [Act.put, List.setIfInBounds_toArray, List.set_cons_zero, List.set_cons_succ]
                      refine wpAnyIn_takeD (i := 9) (d := some 50) (v := ?_) rfl rfl rfl (by kernel_rfl) (by kernel_rfl) (by kernel_rfl) (fun _ _ _ h => h) ⟨Or.inl ⟨by rfl, ?_⟩, fun _ => rfl⟩ ?_
                      rotate_left
                      · intro w; go_simp; all_goals (with_reducible rfl)
                      simp only [Act.put, List.setIfInBounds_toArray, List.set_cons_zero, List.set_cons_succ]
                      refine wpAnyIn_takeD (i := 10) (d := some 51) (v := ?_) rfl rfl rfl (by kernel_rfl) (by kernel_rfl) (by kernel_rfl) (fun _ _ _ h => h) ⟨Or.inl ⟨by rfl, ?_⟩, fun _ => rfl⟩ ?_
                      rotate_left
                      · intro w; go_simp; all_goals (with_reducible rfl)
                      simp only [Act.put, List.setIfInBounds_toArray, List.set_cons_zero, List.set_cons_succ]
                      refine wpAnyIn_takeD (i := 11) (d := some 52) (v := ?_) rfl rfl rfl (by kernel_rfl) (by kernel_rfl) (by kernel_rfl) (fun _ _ _ h => h) ⟨Or.inl ⟨by rfl, ?_⟩, fun _ => rfl⟩ ?_
                      rotate_left
                      · intro w; go_simp; all_goals (with_reducible rfl)
                      simp only [Act.put, List.setIfInBounds_toArray, List.set_cons_zero, List.set_cons_succ]
                      refine wpAnyIn_takeD (i := 12) (d := some 53) (v := ?_) rfl rfl rfl (by kernel_rfl) (by kernel_rfl) (by kernel_rfl) (fun _ _ _ h => h) ⟨Or.inl ⟨by rfl, ?_⟩, fun _ => rfl⟩ ?_
                      rotate_left
                      · intro w; go_simp; all_goals (with_reducible rfl)
                      simp only [Act.put, List.setIfInBounds_toArray, List.set_cons_zero, List.set_cons_succ]
                      refine wpAnyIn_takeD (i := 13) (d := some 54) (v := ?_) rfl rfl rfl (by kernel_rfl) (by kernel_rfl) (by kernel_rfl) (fun _ _ _ h => h) ⟨Or.inl ⟨by rfl, ?_⟩, fun _ => rfl⟩ ?_
                      rotate_left
                      · intro w; go_simp; all_goals (with_reducible rfl)
                      simp only [Act.put, List.setIfInBounds_toArray, List.set_cons_zero, List.set_cons_succ]
                      refine wpAnyIn_takeD (i := 14) (d := some 55) (v := ?_) rfl rfl rfl (by kernel_rfl) (by kernel_rfl) (by kernel_rfl) (fun _ _ _ h => h) ⟨Or.inl ⟨by rfl, ?_⟩, fun _ => rfl⟩ ?_
                      rotate_left
                      · intro w; go_simp; all_goals (with_reducible rfl)
                      simp only [Act.put, List.setIfInBounds_toArray, List.set_cons_zero, List.set_cons_succ]
                      refine wpAnyIn_takeD (i := 15) (d := some 56) (v := ?_) rfl rfl rfl (by kernel_rfl) (by kernel_rfl) (by kernel_rfl) (fun _ _ _ h => h) ⟨Or.inl ⟨by rfl, ?_⟩, fun _ => rfl⟩ ?_
                      rotate_left
                      · intro w; go_simp; all_goals (with_reducible rfl)
                      simp only [Act.put, List.setIfInBounds_toArray, List.set_cons_zero, List.set_cons_succ]
                      refine wpAnyIn_takeD (i := 16) (d := some 57) (v := ?_) rfl rfl rfl (by kernel_rfl) (by kernel_rfl) (by kernel_rfl) (fun _ _ _ h => h) ⟨Or.inl ⟨by rfl, ?_⟩, fun _ => rfl⟩ ?_
                      rotate_left
                      · intro w; go_simp; all_goals (with_reducible rfl)
                      simp only [Act.put, List.setIfInBounds_toArray, List.set_cons_zero, List.set_cons_succ]
                      refine wpAnyIn_takeD (i := 17) (d := some 58) (v := ?_) rfl rfl rfl (by kernel_rfl) (by kernel_rfl) (by kernel_rfl) (fun _ _ _ h => h) ⟨Or.inl ⟨by rfl, ?_⟩, fun _ => rfl⟩ ?_
                      rotate_left
                      · intro w; go_simp; all_goals (with_reducible rfl)
                      simp only [Act.put, List.setIfInBounds_toArray, List.set_cons_zero, List.set_cons_succ]
                      refine wpAnyIn_takeD (i := 18) (d := some 59) (v := ?_) rfl rfl rfl (by kernel_rfl) (by kernel_rfl) (by kernel_rfl) (fun _ _ _ h => h) ⟨Or.inl ⟨by rfl, ?_⟩, fun _ => rfl⟩ ?_
                      rotate_left
                      · intro w; go_simp; all_goals (with_reducible rfl)
                      simp only [Act.put, List.setIfInBounds_toArray, List.set_cons_zero, List.set_cons_succ]
                      refine wpAnyIn_takeD (i := 19) (d := some 60) (v := ?_) rfl rfl rfl (by kernel_rfl) (by kernel_rfl) (by kernel_rfl) (fun _ _ _ h => h) ⟨Or.inl ⟨by rfl, ?_⟩, fun _ => rfl⟩ ?_
                      rotate_left
                      · intro w; go_simp; all_goals (with_reducible rfl)
                      simp only [Act.put, List.setIfInBounds_toArray, List.set_cons_zero, List.set_cons_succ]
                      refine wpAnyIn_takeD (i := 20) (d := some 61) (v := ?_) rfl rfl rfl (by kernel_rfl) (by kernel_rfl) (by kernel_rfl) (fun _ _ _ h => h) ⟨Or.inl ⟨by rfl, ?_⟩, fun _ => rfl⟩ ?_
                      rotate_left
                      · intro w; go_simp; all_goals (with_reducible rfl)
                      simp only [Act.put, List.setIfInBounds_toArray, List.set_cons_zero, List.set_cons_succ]
                      refine wpAnyIn_takeD (i := 21) (d := some 62) (v := ?_) rfl rfl rfl (by kernel_rfl) (by kernel_rfl) (by kernel_rfl) (fun _ _ _ h => h) ⟨Or.inl ⟨by rfl, ?_⟩, fun _ => rfl⟩ ?_
                      rotate_left
                      · intro w; go_simp; all_goals (with_reducible rfl)
                      simp only [Act.put, List.setIfInBounds_toArray, List.set_cons_zero, List.set_cons_succ]
                      refine wpAnyIn_takeD (i := 22) (d := some 63) (v := ?_) rfl rfl rfl (by kernel_rfl) (by kernel_rfl) (by kernel_rfl) (fun _ _ _ h => h) ⟨Or.inl ⟨by rfl, ?_⟩, fun _ => rfl⟩ ?_
                      rotate_left
                      · intro w; go_simp; all_goals (with_reducible rfl)
                      simp only [Act.put, List.setIfInBounds_toArray, List.set_cons_zero, List.set_cons_succ]
                      refine wpAnyIn_takeD (i := 23) (d := some 64) (v := ?_) rfl rfl rfl (by kernel_rfl) (by kernel_rfl) (by kernel_rfl) (fun _ _ _ h => h) ⟨Or.inl ⟨by rfl, ?_⟩, fun _ => rfl⟩ ?_
                      rotate_left
                      · intro w; go_simp; all_goals (with_reducible rfl)
                      simp only [Act.put, List.setIfInBounds_toArray, List.set_cons_zero, List.set_cons_succ]
                      refine wpAnyIn_ready (rs := [24]) (by kernel_rfl) (by simp) ?_
                      refine AllReadyIn.cons rfl (fun K hK => ?_) AllReadyIn.nil
                      go_simp
                      refine hK _ _ ?_
                      clear hK K
                      refine wpAnyIn_ready (rs := [25]) (by kernel_rfl) (by simp) ?_
                      refine AllReadyIn.cons rfl (fun K hK => ?_) AllReadyIn.nil
                      go_simp
                      refine ⟨fun _ => by omega, HRn.out.mono ?_⟩
                      rintro e W5 ⟨c, rfl, hor⟩
                      dsimp only
                      refine hK _ _ ?_
                      clear hK K
                      try simp only [Act.put, List.setIfInBounds_toArray, List.set_cons_zero, List.set_cons_succ]
                      refine wpAnyIn_takeD (i := 26) (d := some 67) (v := ?_) rfl rfl rfl (by kernel_rfl) (by kernel_rfl) (by kernel_rfl) (fun _ _ _ h => h) ⟨Or.inl ⟨by rfl, ?_⟩, fun _ => rfl⟩ ?_
                      rotate_left
                      · intro w; go_simp; all_goals (with_reducible rfl)
                      simp only [Act.put, List.setIfInBounds_toArray, List.set_cons_zero, List.set_cons_succ]
                      refine wpAnyIn_takeD (i := 27) (d := some 68) (v := ?_) rfl rfl rfl (by kernel_rfl) (by kernel_rfl) (by kernel_rfl) (fun _ _ _ h => h) ⟨Or.inl ⟨by rfl, ?_⟩, fun _ => rfl⟩ ?_
                      rotate_left
                      · intro w; go_simp; all_goals (with_reducible rfl)
                      simp only [Act.put, List.setIfInBounds_toArray, List.set_cons_zero, List.set_cons_succ]
                      refine wpAnyIn_done (by kernel_rfl) ?_ _
                      rcases hor with ⟨rfl, hJ5, hk5⟩ | ⟨rfl, hJx5⟩
                      · gi_wp2
                        go_roundw
                        case rel =>
                          have hk5' : KeepT wc W5 := ⟨hk5.size, hk5.same⟩
                          have ht5 := HTc.out.block rfl hk5'
                          refine ⟨k, ys ++ [x], rfl, hk, HPy.out.add x HX.out.1 (by have := HX.out.2.1; omega) (by omega) (by rw [HX.out.2.2]; exact htz) (fun r h1 h2 => ?_), hJ5, HSc.out.keepT hk5', ownsRow_keepT hRc.out rfl hk5', Nat.le_trans HXc.out hk5.size, HWc.out.block ht5, ?_⟩
                          · have := HSM.out (r - a * 256) (by omega) (by omega)
                            rw [show a * 256 + (r - a * 256) = r by omega] at this
                            rw [this, HT.out, HX.out.2.2]
                          · obtain ⟨cs, hcs⟩ := HTc.out
                            exact ⟨cs, ht5.trans hcs⟩
                        case measure => simp [intOf]; omega
                      · gi_wp2
                        refine bodyPost_ret (results_none rfl _ _ _) rfl ?_
                        exact ⟨⟨_, rfl⟩, .inr ⟨ys ++ [x], trivial, hJx5⟩⟩
        · have hie : i = 256 := by omega
          have i2 : ¬ (i : Int) < 256 := by omega
          gi_wp2
          go_roundw
          case rel =>
            refine ⟨idx + 1, ys, by go_num, by omega, HPy.out.skip (by have := keysB_next hlt; rw [ha] at this; omega) (fun r h1 h2 => keysB_gap hlt r (by rw [ha]; omega) h2), HJy.out, HSy.out, HRy.out, hszy⟩
          case measure => simp [intOf]; omega
    · gi_wp2
      go_end0
      refine ⟨⟨_, rfl⟩, .inl ⟨xs, ?_, HJr.out⟩⟩
      have := HPc.out
      rw [getD_out hlt] at this
      exact this

end Go.Proofs.Ytkpkcimghkmkfaa
