/-
  Multi: the reference's Read and All.
-/
import Derived.Test.YtplobpelhcagpaaDoorMtK
import Derived.Test.YtplobpelhcagpaaDoorMtC
namespace Go.Proofs.YtplobpelhcagpaaDoor
open Go.RowKit Go.Shelf Pl14

/-- faults of the reference that a slice of the call's own holds -/
def OwnG (B : Nat) (w : World) (v : Value) (fs : List (Int × Int)) : Prop := w.ownsRow B 96 2 v fs.length (fltC fs)
theorem OwnG.nil (B : Nat) (w : World) : OwnG B w (.slice none 0 0) [] := World.ownsRow_nil w B 96 2
theorem refFltE : ElemN Tryd.prog 38 96 (.agg #[.int .i64 0, .int .i64 0]) 2 16 := ElemN.mk' Tryd.underlying38 rfl (by decide) (by kernel_rfl)
theorem OwnG.below {B : Nat} {w w' : World} {v : Value} {fs : List (Int × Int)} (h : OwnG B w v fs) {m : Nat} (hb : Below m w w') (hm : m = w.heap.size) : OwnG B w' v fs := ownsRow_below h hb hm
theorem OwnG.rd {B : Nat} {w : World} {v : Value} {fs : List (Int × Int)} (h : OwnG B w v fs) : RdF w v fs := rdF_of_row h
theorem OwnF.rd {B : Nat} {w : World} {v : Value} {fs : List (Int × Int)} (h : OwnF B w v fs) : RdF w v fs := rdF_of_row h

theorem RowsFrom.text : ∀ {rs : List MRow} {ps : List CT}, RowsFrom ps rs → ∀ r ∈ rs, runesL r.2.1 ≠ []
  | [], _, _, r, h => by simp at h
  | x :: rs, _, hr, r, h => by
    rcases List.mem_cons.1 h with rfl | h
    · have hc := hr.1.1
      unfold checkE at hc
      by_cases hcond : r.1.size < 1 ∨ 4 < r.1.size ∨ (Lib.runeCount r.2.1 : Int) < 1 ∨ 18 < (Lib.runeCount r.2.1 : Int) ∨ Lib.validD r.2.1.data.toList = false
      · rw [if_pos hcond] at hc; cases hc
      · intro e
        have := congrArg List.length e
        rw [runesL_len] at this
        simp at this
        exact hcond (.inr (.inr (.inl (by omega))))
    · exact RowsFrom.text hr.2 r h
theorem conv_text {w : World} {tv : Value} {rs : List MRow} (hok : RowsOk rs) {r : MRow} (hr : r ∈ rs) (h : Rd .i32 w tv (runesL r.2.1)) : (convert 75 9 tv).run Tryd.prog w = .ok (.string r.2.1) w := by
  have := conv_key h (RowsFrom.text hok r hr)
  rwa [runes_back _ (RowsFrom.valid hok r hr)] at this
theorem conv_bad {w : World} {b : Nat} (h : Blk w b #[.int .i32 65533] 21) : (convert 75 9 (.slice (some ⟨b, 0, none⟩) 1 1)).run Tryd.prog w = .ok (.string ⟨badB.toArray⟩) w := by
  have := conv_key (w := w) (v := .slice (some ⟨b, 0, none⟩) 1 1) (xs := [65533]) ⟨_, 1, rfl, Nat.le_refl _, by decide, (fun h => by cases h), .inr ⟨b, 0, rfl, fun j hj => by
    have h0 : j = 0 := by simpa using hj
    subst h0
    exact (h.cell (0 + 0)).trans rfl⟩⟩ (by simp)
  rw [this]
  rfl

/-- what Read answers -/
def ReadR (B : Nat) (w' : World) (e : Ending) (x : StepA) : Prop := ∃ v, e = .returned (.tuple #[.string ⟨x.out.toArray⟩, v, .int .i64 x.at_]) ∧ OwnG B w' v x.fs
theorem read_ret {o : ByteArray} {v : Value} {k : Nat} {x : StepA} (h1 : x.out = o.data.toList) (h2 : x.at_ = k) : Ending.returned (.tuple #[.string o, v, .int .i64 (k : Int)]) = .returned (.tuple #[.string ⟨x.out.toArray⟩, v, .int .i64 x.at_]) := by
  have e : (⟨x.out.toArray⟩ : ByteArray) = o := by apply bytes_eq; rw [h1]
  rw [e, h2]
set_option maxRecDepth 100000 in
set_option maxHeartbeats 16000000 in
theorem read_any (vl : Value) (rs : List MRow) (how : Int) (s : ByteArray) (w : World) (hl : RdP w vl rs) (hok : RowsOk rs) (hps : textsLe (psOf rs)) (hsz : s.size ≤ 10000) :
    Calls Tryd.prog 25 #[vl, .int .i64 how, .string s] w fun e w' => ReadR w.heap.size w' e (stepP (psOf rs) how s.data.toList 0) ∧ Below w.heap.size w w' := by
  have HL := Lib.hid hl; clear hl
  have HOK := Lib.hid hok; clear hok
  have HPS := Lib.hid hps; clear hps
  have HFREE := Lib.hid (preFree_of HOK.out)
  obtain ⟨ps, hpsd⟩ : ∃ ps, psOf rs = ps := ⟨_, rfl⟩
  rw [hpsd] at HPS HFREE ⊢
  have HPSD := Lib.hid hpsd; clear hpsd
  obtain ⟨N, hN⟩ : ∃ n, s.size = n := ⟨_, rfl⟩
  have HN := Lib.hid (show s.data.toList.length = N from by rw [← hN]; exact (size_toList s).symm)
  have HNS := Lib.hid hN
  rw [hN] at hsz
  clear hN
  obtain ⟨X, hX⟩ : ∃ X, stepP ps how s.data.toList 0 = X := ⟨_, rfl⟩
  have HX := Lib.hid hX; clear hX
  go_enter Tryd.func25, Tryd.ntmps25
  go_wp2
  go_loopw [9, 10, 11] (fun s9 s10 s11 wr => ∃ (k : Nat) (o : ByteArray) (fs : List (Int × Int)), s9 = .string o ∧ s11 = .int .i64 k ∧ k ≤ N ∧ o.size ≤ 300000 * k ∧ fs.length ≤ k ∧ X = StepA.pre o.data.toList fs (stepP ps how (s.data.toList.drop k) k) ∧ OwnG w.heap.size wr s10 fs ∧ Below w.heap.size w wr) (fun _ _ s11 _ => N - (intOf s11).toNat)
  case atStart => exact ⟨0, _, [], rfl, rfl, Nat.zero_le _, Nat.le_refl _, Nat.le_refl _, by rw [← HX.out]; exact (StepA.pre_nil _).symm, OwnG.nil _ _, Below.refl _ _⟩
  case round =>
    obtain ⟨k, o, fs, rfl, rfl, hk, ho, hfl, hx, hown, hB⟩ := hrel
    have HXK := Lib.hid hx; clear hx
    have HB3 := Lib.hid hB; clear hB
    have HO3 := Lib.hid hown; clear hown
    have HL3 := Lib.hid (HL.out.mono HB3.out rfl)
    by_cases hlt : k < N
    · obtain ⟨h, hh⟩ : ∃ h, s.data.toList.drop k = h := ⟨_, rfl⟩
      have HH := Lib.hid hh
      have HHL := Lib.hid (show h.length = N - k from by rw [← hh, List.length_drop, HN.out])
      have hh0 : h ≠ [] := fun e => by have := HHL.out; rw [e] at this; simp at this; omega
      have HH0 := Lib.hid hh0
      rw [hh] at HXK
      have HEX := Lib.hid (show (s.extract k s.size).data.toList = h from by rw [extract_drop]; exact hh)
      obtain ⟨n, t, er, hn⟩ : ∃ n t er, nextP ps h = (n, t, er) := ⟨_, _, _, rfl⟩
      have HNX := Lib.hid hn
      have hkl : k < s.size := by rw [HNS.out]; exact hlt
      have hsz2 : s.size ≤ 10000 := by rw [HNS.out]; exact hsz
      clear hh hh0
      go_wp2_with fail
      refine (next17_any vl rs (s.extract k s.size) wr HL3.out (by rw [HPSD.out]; exact HFREE.out)).mono ?_
      rw [HPSD.out, HEX.out, HNX.out]
      rintro e W2 ⟨rfl, rfl⟩
      rcases nextP_cases ps h hn with ⟨rfl, h1, h2, h3⟩ | ⟨rfl, rfl, rfl⟩ | ⟨rfl, rfl, rfl⟩
      · have e1 : nxI (n, t, 0) = (n : Int) := rfl
        rw [e1]
        obtain ⟨q, hq⟩ : ∃ q : Nat, k + n = q := ⟨_, rfl⟩
        have hqs : q ≤ s.size := by have := HHL.out; rw [HNS.out]; omega
        have hkq : k ≤ q := by omega
        have HEQ := Lib.hid (show (s.extract k q).data.toList = h.take n from by rw [extract_mid, ← HH.out, ← hq, List.drop_take]; congr 1; omega)
        have hex : ∃ r ∈ rs, r.2.2 ≠ 1 ∧ r.1 = s.extract k q := by
          obtain ⟨p, hp, e2, _⟩ := lookT_mem h3
          rw [← HPSD.out] at hp
          obtain ⟨r, hr, hr1, rfl⟩ := of_mem_psOf hp
          exact ⟨r, hr, hr1, bytes_eq (e2.trans HEQ.out.symm)⟩
        have HQ := Lib.hid hq
        have HLK := Lib.hid h3
        have hqw : IntKind.i64.wrap ((k : Int) + (n : Int)) = (q : Int) := by rw [IntWalk.i64_in _ (by omega)]; omega
        have hn1 : ¬ (n : Int) = 0 := by omega
        have hn2 : ((n : Int) == 0) = false := by simp; omega
        have hn3 : 0 < n := h1
        have HN2 := Lib.hid h2
        clear hn h1 h2 h3 e1 hq
        go_wp2_with fail
        refine (text17_any vl rs (s.extract k q) _ HL3.out hex).mono ?_
        rintro e W2 ⟨⟨tv, r, rfl, hrd, hr, hr1, hrc⟩, rfl⟩
        obtain ⟨ta, tcap, hts, -⟩ := hrd.shape
        have hcv := conv_text HOK.out hr hrd
        have HRT := Lib.hid (show r.2.1.data.toList = t from by
          have hm := mem_psOf hr hr1
          rw [HPSD.out] at hm
          have := (HFREE.out _ hm).2.1
          simp only at this
          rw [hrc, HEQ.out, HLK.out] at this
          exact (Option.some.inj this).symm)
        have hrz : r.2.1.size ≤ 300000 := by
          have hm := mem_psOf hr hr1
          rw [HPSD.out] at hm
          exact HPS.out _ hm
        obtain ⟨rt, hrt⟩ : ∃ q, r.2.1 = q := ⟨_, rfl⟩
        rw [hrt] at hcv HRT hrz
        have hcat : ¬ 9223372036854775807 < o.size + rt.size := by omega
        subst hts
        have HXQ := Lib.hid (show X = StepA.pre (o ++ rt).data.toList fs (stepP ps how (s.data.toList.drop q) q) from by
          rw [HXK.out, stepP_ok HNX.out, StepA.pre_pre, ← HH.out, List.drop_drop, HQ.out]
          simp [HRT.out])
        clear hex hrd hr hr1 hrc hrt
        go_wp2
        go_roundw
        case rel => exact ⟨q, o ++ rt, fs, rfl, rfl, by rw [← HNS.out]; exact hqs, by rw [ByteArray.size_append]; have := HQ.out; omega, by omega, HXQ.out, HO3.out, HB3.out⟩
        case measure => have := HQ.out; have := HHL.out; have := HN2.out; simp [intOf]; omega
      · have e1 : nxI (0, [], 18) = 0 := rfl
        rw [e1]
        have HX2 := Lib.hid (show X = StepA.pre o.data.toList fs ⟨[], [], h, k, false, 0⟩ from by rw [HXK.out, stepP_more HNX.out])
        clear hn e1
        go_wp2
        go_ret3
        refine ⟨?_, HB3.out⟩
        rw [HX.out, HX2.out]
        refine ⟨u10, read_ret (o := o) (k := k) (by simp [StepA.pre]) rfl, ?_⟩
        simpa [StepA.pre] using HO3.out
      · have e1 : nxI (0, [], 17) = -1 := rfl
        rw [e1]
        obtain ⟨v, hv⟩ : ∃ v, u10 = v := ⟨_, rfl⟩
        rw [hv] at HO3 ⊢
        clear hv
        have HSB := Lib.hid (stepP_bad (how := how) (at_ := k) HH0.out HNX.out)
        obtain ⟨W3, hW3⟩ : ∃ W, wr.alloc (.cells #[.int .i64 k, .int .i64 1] 96) = W := ⟨_, rfl⟩
        have hbk := Blk.new wr #[.int .i64 k, .int .i64 1] 96
        obtain ⟨p3, hp3⟩ : ∃ q, wr.heap.size = q := ⟨_, rfl⟩
        rw [hW3, hp3] at hbk
        have hb3 : Below wr.heap.size wr W3 := by rw [← hW3]; exact (Below.refl _ _).alloc (Nat.le_refl _) _
        have HBK := Lib.hid hbk
        have HR3 := Lib.hid (HO3.out.below hb3 rfl)
        have HB4 := Lib.hid (HB3.out.trans (hb3.mono HB3.out.size))
        have hbz : w.heap.size ≤ W3.heap.size := HB4.out.size
        have hko : o.size ≤ 300000 * 10000 := by omega
        obtain ⟨q, hq⟩ : ∃ q : Nat, k + 1 = q := ⟨_, rfl⟩
        have hqw : IntKind.i64.wrap ((k : Int) + 1) = (q : Int) := by rw [IntWalk.i64_in _ (by omega)]; omega
        have HQ := Lib.hid hq
        have hfl2 : fs.length ≤ 10000 := by omega
        have HDR := Lib.hid (show h.drop 1 = s.data.toList.drop q from by rw [← HH.out, List.drop_drop, hq])
        have HQN := Lib.hid (show q ≤ N from by omega)
        clear hn e1 hbk hb3 HO3 hq
        by_cases hw1 : how = 1
        · have e3 : (how == 1) = true := by simp [hw1]
          have HX2 := Lib.hid (show X = StepA.pre o.data.toList fs ⟨badOf how, [((k : Int), 1)], [], q, true, 17⟩ from by rw [HXK.out, HSB.out, if_pos hw1, HQ.out])
          have HBE := Lib.hid (show badOf how = [] from by rw [hw1]; rfl)
          clear hw1
          go_wp2_with (at_builtin; refine appendN refFltE rfl _ _ rfl w.heap.size v fs.length (fltC fs) rfl HR3.out p3 #[.int .i64 k, .int .i64 1] _ HBK.out rfl rfl (by simp [Value.oneCell']) (by omega) (by omega) hbz ?_; intro g cap w4 hown hgr)
          go_ret3
          refine ⟨?_, HB4.out.grown hgr hbz (fun j hj => (World.ownsRow.lt HR3.out j hj).1)⟩
          rw [HX.out, HX2.out]
          refine ⟨.slice (some ⟨g, 0, none⟩) (fs.length + 1) cap, read_ret (o := o) (k := q) (by simp [StepA.pre, HBE.out]) rfl, ?_⟩
          unfold OwnG
          simp only [StepA.pre]
          rw [fltC_snoc, List.length_append]
          exact hown
        · have e3 : (how == 1) = false := by simp [hw1]
          have HX2 := Lib.hid (show X = StepA.pre (o.data.toList ++ badOf how) (fs ++ [((k : Int), 1)]) (stepP ps how (s.data.toList.drop q) q) from by rw [HXK.out, HSB.out, if_neg hw1, StepA.pre_pre, HDR.out, HQ.out])
          by_cases hw2 : how = 2
          · have e4 : (how == 2) = true := by simp [hw2]
            have HX3 := Lib.hid (show X = StepA.pre (o ++ ⟨badB.toArray⟩).data.toList (fs ++ [((k : Int), 1)]) (stepP ps how (s.data.toList.drop q) q) from by rw [HX2.out, hw2]; simp [badOf])
            clear hw1 hw2 HX2
            have hbs : (⟨badB.toArray⟩ : ByteArray).size = 3 := rfl
            have hcat : ¬ 9223372036854775807 < o.size + (⟨badB.toArray⟩ : ByteArray).size := by rw [hbs]; omega
            go_wp2_with (at_builtin; refine appendN refFltE rfl _ _ rfl w.heap.size v fs.length (fltC fs) rfl HR3.out p3 #[.int .i64 k, .int .i64 1] _ HBK.out rfl rfl (by simp [Value.oneCell']) (by omega) (by omega) hbz ?_; intro g cap w4 hown hgr; have hcv := conv_bad (Blk.new w4 #[.int .i32 65533] 21))
            have hB5 := HB4.out.grown hgr hbz (fun j hj => (World.ownsRow.lt HR3.out j hj).1)
            go_roundw
            case rel =>
              refine ⟨q, _, fs ++ [((k : Int), 1)], rfl, by go_num, HQN.out, by rw [ByteArray.size_append, hbs]; have := HQ.out; omega, by rw [List.length_append]; have := HQ.out; simp; omega, HX3.out, ?_, hB5.alloc hB5.size _⟩
              refine OwnG.below (m := w4.heap.size) ?_ ((Below.refl _ _).alloc (Nat.le_refl _) _) rfl
              unfold OwnG
              rw [fltC_snoc, List.length_append]
              exact hown
            case measure => have := HQ.out; have := HQN.out; simp [intOf]; omega
          · have e4 : (how == 2) = false := by simp [hw2]
            have HX3 := Lib.hid (show X = StepA.pre o.data.toList (fs ++ [((k : Int), 1)]) (stepP ps how (s.data.toList.drop q) q) from by rw [HX2.out]; simp [badOf, hw2])
            clear hw1 hw2 HX2
            go_wp2_with (at_builtin; refine appendN refFltE rfl _ _ rfl w.heap.size v fs.length (fltC fs) rfl HR3.out p3 #[.int .i64 k, .int .i64 1] _ HBK.out rfl rfl (by simp [Value.oneCell']) (by omega) (by omega) hbz ?_; intro g cap w4 hown hgr)
            go_roundw
            case rel =>
              refine ⟨q, _, fs ++ [((k : Int), 1)], rfl, by go_num, HQN.out, by have := HQ.out; omega, by rw [List.length_append]; have := HQ.out; simp; omega, HX3.out, ?_, HB4.out.grown hgr hbz (fun j hj => (World.ownsRow.lt HR3.out j hj).1)⟩
              unfold OwnG
              rw [fltC_snoc, List.length_append]
              exact hown
            case measure => have := HQ.out; have := HQN.out; simp [intOf]; omega
    · have hkN : k = N := by omega
      have HX2 := Lib.hid (show X = StepA.pre o.data.toList fs ⟨[], [], [], k, false, 0⟩ from by rw [HXK.out, List.drop_eq_nil_of_le (by rw [HN.out]; omega), stepP_nil])
      have hkl : ¬ k < s.size := by rw [HNS.out]; exact hlt
      clear hkN
      go_wp2
      go_ret3
      refine ⟨?_, HB3.out⟩
      rw [HX.out, HX2.out]
      refine ⟨u10, read_ret (o := o) (k := k) (by simp [StepA.pre]) rfl, ?_⟩
      simpa [StepA.pre] using HO3.out

theorem strict_fs (ps : List CT) : ∀ (k : Nat) (h : Bytes) (at_ : Nat), h.length ≤ k → ((stepP ps 1 h at_).er = 0 → (stepP ps 1 h at_).fs = []) ∧ ((stepP ps 1 h at_).er ≠ 0 → (stepP ps 1 h at_).fs ≠ []) := by
  intro k
  induction k with
  | zero =>
    intro h at_ hk
    obtain rfl : h = [] := by simpa using hk
    rw [stepP_nil]; simp
  | succ k ih =>
    intro h at_ hk
    by_cases h0 : h = []
    · subst h0; rw [stepP_nil]; simp
    have hpos : 0 < h.length := List.length_pos_iff.2 h0
    obtain ⟨n, t, er, hn⟩ : ∃ n t er, nextP ps h = (n, t, er) := ⟨_, _, _, rfl⟩
    rcases nextP_cases ps h hn with ⟨rfl, a, b, c⟩ | ⟨rfl, rfl, rfl⟩ | ⟨rfl, rfl, rfl⟩
    · have := ih (h.drop n) (at_ + n) (by rw [List.length_drop]; omega)
      rw [stepP_ok hn]
      simpa [StepA.pre] using this
    · rw [stepP_more hn]; simp
    · rw [stepP_bad h0 hn, if_pos rfl]; simp
/-- what All answers -/
def AllR (B : Nat) (w' : World) (e : Ending) (x : Bytes × List (Int × Int) × Int) : Prop := ∃ v, e = .returned (.tuple #[.string ⟨x.1.toArray⟩, v, .int .i64 x.2.2]) ∧ OwnG B w' v x.2.1
theorem all_ret {o : ByteArray} {v : Value} {er : Int} {x : Bytes × List (Int × Int) × Int} (h1 : x.1 = o.data.toList) (h2 : x.2.2 = er) : Ending.returned (.tuple #[.string o, v, .int .i64 er]) = .returned (.tuple #[.string ⟨x.1.toArray⟩, v, .int .i64 x.2.2]) := by
  have e : (⟨x.1.toArray⟩ : ByteArray) = o := by apply bytes_eq; rw [h1]
  rw [e, h2]

set_option maxRecDepth 100000 in
set_option maxHeartbeats 16000000 in
theorem all_any (vl : Value) (rs : List MRow) (how : Int) (s : ByteArray) (w : World) (hl : RdP w vl rs) (hok : RowsOk rs) (hps : textsLe (psOf rs)) (hsz : s.size ≤ 10000) (hhow : HowOk how) :
    Calls Tryd.prog 15 #[vl, .int .i64 how, .string s] w fun e w' => AllR w.heap.size w' e (allP (psOf rs) how s.data.toList 0) ∧ Below w.heap.size w w' := by
  obtain ⟨X, hX⟩ : ∃ X, stepP (psOf rs) how s.data.toList 0 = X := ⟨_, rfl⟩
  have hinv := stepR_inv (psOf rs) how hps (s.data.toList.length + 1) [] [] s.data.toList 0 X hX
  have hst : how = 1 → (X.er = 0 → X.fs = []) ∧ (X.er ≠ 0 → X.fs ≠ []) := by
    rintro rfl
    rw [← hX]
    exact strict_fs (psOf rs) _ _ _ (Nat.le_refl _)
  rw [← size_toList] at hinv
  simp only [List.length_nil, Nat.zero_add] at hinv
  have HX := Lib.hid hX; clear hX
  obtain ⟨Y, hY⟩ : ∃ Y, allP (psOf rs) how s.data.toList 0 = Y := ⟨_, rfl⟩
  have HY := Lib.hid (show Y = if X.er = 0 then (X.out ++ (flushP how X.held X.at_).1, X.fs ++ (flushP how X.held X.at_).2.1, (flushP how X.held X.at_).2.2) else (X.out, X.fs, X.er) from by
    rw [← hY]; unfold allP; rw [HX.out])
  rw [hY]
  clear hY
  have HIN := Lib.hid hinv; clear hinv
  have HST := Lib.hid hst; clear hst
  go_enter Tryd.func15, Tryd.ntmps15
  go_wp2_with fail
  refine (read_any vl rs how s w hl hok hps hsz).mono ?_
  rw [HX.out]
  rintro e w1 ⟨⟨v, rfl, hown⟩, hb1⟩
  obtain ⟨va, vcap, rfl, -⟩ := ownsRow_shapeN hown
  have HOWN := Lib.hid hown; clear hown
  have HB1 := Lib.hid hb1; clear hb1
  obtain ⟨xo, xf, xh, xa, xc, xe⟩ := X
  simp only at HY HIN HST HOWN ⊢
  obtain ⟨o, ho⟩ : ∃ o : ByteArray, (⟨xo.toArray⟩ : ByteArray) = o := ⟨_, rfl⟩
  have HO := Lib.hid (show xo = o.data.toList from by rw [← ho])
  rw [ho]
  clear ho
  have hfl : xf.length ≤ 10000 := by have := HIN.out.2.1; omega
  have hol : o.size ≤ 300000 * 10000 := by have := HIN.out.1; rw [HO.out, ← size_toList] at this; omega
  rcases HIN.out.2.2.2 with ⟨he, hc, hl2⟩ | ⟨he, hc, hh, hw1⟩
  · subst he
    subst hc
    rw [if_pos rfl] at HY
    by_cases hh : xh = []
    · have hxa : ((xa : Int) == (s.size : Int)) = true := by rw [hh] at hl2; simp at hl2; simp [hl2]
      have HYY := Lib.hid (show Y = (o.data.toList, xf, 0) from by rw [HY.out, hh]; simp [flushP, HO.out])
      have hxi : (xa : Int) = (s.size : Int) := by simpa using hxa
      clear hl2 hh
      by_cases hw1 : how = 1
      · have e3 : (how == 1) = true := by simp [hw1]
        have hxf := (HST.out hw1).1 rfl
        subst hxf
        clear hw1
        go_wp2
        go_ret3
        refine ⟨?_, HB1.out⟩
        rw [HYY.out]
        exact ⟨_, all_ret (o := o) (er := 0) rfl rfl, HOWN.out⟩
      · have e3 : (how == 1) = false := by simp [hw1]
        clear hw1
        go_wp2
        go_ret3
        refine ⟨?_, HB1.out⟩
        rw [HYY.out]
        exact ⟨_, all_ret (o := o) (er := 0) rfl rfl, HOWN.out⟩
    · have hxp : 0 < xh.length := List.length_pos_iff.2 hh
      have hxa : ((xa : Int) == (s.size : Int)) = false := by simp; omega
      have hxi : ¬ (xa : Int) = (s.size : Int) := by omega
      obtain ⟨L, hL⟩ : ∃ L, xh.length = L := ⟨_, rfl⟩
      have hwr : IntKind.i64.wrap ((s.size : Int) - (xa : Int)) = (L : Int) := by rw [IntWalk.i64_in _ (by omega)]; omega
      have HYF := Lib.hid (show Y = (o.data.toList ++ badOf how, xf ++ [((xa : Int), (L : Int))], if how = 1 then 18 else 0) from by
        rw [HY.out]
        unfold flushP
        by_cases h1 : how = 1
        · simp [hh, h1, HO.out, hL, badOf]
        · simp [hh, h1, HO.out, hL])
      obtain ⟨W3, hW3⟩ : ∃ W, w1.alloc (.cells #[.int .i64 xa, .int .i64 L] 96) = W := ⟨_, rfl⟩
      have hbk := Blk.new w1 #[.int .i64 xa, .int .i64 L] 96
      obtain ⟨p3, hp3⟩ : ∃ q, w1.heap.size = q := ⟨_, rfl⟩
      rw [hW3, hp3] at hbk
      have hb3 : Below w1.heap.size w1 W3 := by rw [← hW3]; exact (Below.refl _ _).alloc (Nat.le_refl _) _
      have HBK := Lib.hid hbk
      have HR3 := Lib.hid (HOWN.out.below hb3 rfl)
      have HB4 := Lib.hid (HB1.out.trans (hb3.mono HB1.out.size))
      have hbz : w.heap.size ≤ W3.heap.size := HB4.out.size
      clear hbk hb3 HOWN hh hxp hL hl2
      by_cases hw1 : how = 1
      · have e3 : (how == 1) = true := by simp [hw1]
        have hxf := (HST.out hw1).1 rfl
        have HYY := Lib.hid (show Y = (o.data.toList, xf ++ [((xa : Int), (L : Int))], 18) from by rw [HYF.out, hw1]; simp [badOf])
        have hx0 : xf.length = 0 := by rw [hxf]; rfl
        have hx1 : ¬ 0 < xf.length := by omega
        clear hw1 hxf hx0
        go_wp2_with (at_builtin; refine appendN refFltE rfl _ _ rfl w.heap.size (.slice va xf.length vcap) xf.length (fltC xf) rfl HR3.out p3 #[.int .i64 xa, .int .i64 L] _ HBK.out rfl rfl (by simp [Value.oneCell']) (by omega) (by omega) hbz ?_; intro g cap w4 hown hgr)
        go_ret3
        refine ⟨?_, HB4.out.grown hgr hbz (fun j hj => (World.ownsRow.lt HR3.out j hj).1)⟩
        rw [HYY.out]
        refine ⟨.slice (some ⟨g, 0, none⟩) (xf.length + 1) cap, all_ret (o := o) (er := 18) rfl rfl, ?_⟩
        unfold OwnG
        rw [fltC_snoc, List.length_append]
        exact hown
      · have e3 : (how == 1) = false := by simp [hw1]
        by_cases hw2 : how = 2
        · have e4 : (how == 2) = true := by simp [hw2]
          have HYY := Lib.hid (show Y = ((o ++ ⟨badB.toArray⟩).data.toList, xf ++ [((xa : Int), (L : Int))], 0) from by rw [HYF.out, hw2]; simp [badOf])
          clear hw1 hw2
          have hbs : (⟨badB.toArray⟩ : ByteArray).size = 3 := rfl
          have hcat : ¬ 9223372036854775807 < o.size + (⟨badB.toArray⟩ : ByteArray).size := by rw [hbs]; omega
          go_wp2_with (at_builtin; refine appendN refFltE rfl _ _ rfl w.heap.size (.slice va xf.length vcap) xf.length (fltC xf) rfl HR3.out p3 #[.int .i64 xa, .int .i64 L] _ HBK.out rfl rfl (by simp [Value.oneCell']) (by omega) (by omega) hbz ?_; intro g cap w4 hown hgr; have hcv := conv_bad (Blk.new w4 #[.int .i32 65533] 21))
          go_ret3
          have hB5 := HB4.out.grown hgr hbz (fun j hj => (World.ownsRow.lt HR3.out j hj).1)
          refine ⟨?_, hB5.alloc hB5.size _⟩
          rw [HYY.out]
          refine ⟨.slice (some ⟨g, 0, none⟩) (xf.length + 1) cap, all_ret (o := o ++ (⟨badB.toArray⟩ : ByteArray)) (v := .slice (some ⟨g, 0, none⟩) (xf.length + 1) cap) (er := 0) (x := ((o ++ (⟨badB.toArray⟩ : ByteArray)).data.toList, xf ++ [((xa : Int), (L : Int))], 0)) rfl rfl, ?_⟩
          refine OwnG.below (m := w4.heap.size) ?_ ((Below.refl _ _).alloc (Nat.le_refl _) _) rfl
          unfold OwnG
          rw [fltC_snoc, List.length_append]
          exact hown
        · have e4 : (how == 2) = false := by simp [hw2]
          have HYY := Lib.hid (show Y = (o.data.toList, xf ++ [((xa : Int), (L : Int))], 0) from by rw [HYF.out]; simp [badOf, hw1, hw2])
          clear hw1 hw2
          go_wp2_with (at_builtin; refine appendN refFltE rfl _ _ rfl w.heap.size (.slice va xf.length vcap) xf.length (fltC xf) rfl HR3.out p3 #[.int .i64 xa, .int .i64 L] _ HBK.out rfl rfl (by simp [Value.oneCell']) (by omega) (by omega) hbz ?_; intro g cap w4 hown hgr)
          go_ret3
          refine ⟨?_, HB4.out.grown hgr hbz (fun j hj => (World.ownsRow.lt HR3.out j hj).1)⟩
          rw [HYY.out]
          refine ⟨.slice (some ⟨g, 0, none⟩) (xf.length + 1) cap, all_ret (o := o) (er := 0) rfl rfl, ?_⟩
          unfold OwnG
          rw [fltC_snoc, List.length_append]
          exact hown
  · subst he
    rw [if_neg (by decide)] at HY
    have e3 : (how == 1) = true := by simp [hw1]
    have hx1 : 0 < xf.length := List.length_pos_iff.2 ((HST.out hw1).2 (by decide))
    have HYY := Lib.hid (show Y = (o.data.toList, xf, 17) from by rw [HY.out, HO.out])
    clear hw1 hc hh
    go_wp2
    go_ret3
    refine ⟨?_, HB1.out⟩
    rw [HYY.out]
    exact ⟨_, all_ret (o := o) (er := 17) rfl rfl, HOWN.out⟩

end Go.Proofs.YtplobpelhcagpaaDoor
