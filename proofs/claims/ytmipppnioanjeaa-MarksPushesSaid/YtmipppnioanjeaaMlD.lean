/-
  The law MarksPushes, walked.
-/
import Derived.Test.YtmipppnioanjeaaMkW
import Derived.Test.YtmipppnioanjeaaMkR
import Derived.Test.YtmipppnioanjeaaMlC
import Derived.Deep.CutBlock
import Derived.Deep.DeepCutAuto
namespace Go.Proofs.Ytmipppnioanjeaa
open Go.RowKit Go.Shelf Pl14

theorem same_reflP (va vb : Value) (xs : List Int) (w : World) (ha : Rd .i32 w va xs) (hb : Rd .i32 w vb xs) :
    Calls Try.prog 17 #[va, vb] w fun e w' => e = .returned (.bool true) ∧ Below w.heap.size w w' := by
  refine (same_any va vb xs xs w ha hb).mono ?_
  rintro e w' ⟨rfl, h⟩
  exact ⟨by simp, h⟩

theorem heldL_suffix_take (l : List Int) : ∀ k, k ≤ l.length → heldL (l.take k) <:+ l.take k := by
  intro k
  induction k with
  | zero => intro _; exact List.suffix_refl _
  | succ k ih =>
    intro hk
    have ih := ih (by omega)
    rw [take_snoc l k (by omega)]
    have e : heldL (l.take k ++ [l.getD k 0]) = (pushL (heldL (l.take k)) [l.getD k 0]).2 := heldL_append _ _
    rw [e, pushL_cons]
    split
    · exact List.nil_suffix
    · exact (List.suffix_append_inj_of_length_eq rfl).2 ⟨ih, rfl⟩

theorem heldL_drop (l : List Int) : l.drop (l.length - (heldL l).length) = heldL l := by
  have := heldL_suffix_take l l.length (Nat.le_refl _)
  rw [List.take_length] at this
  exact (List.suffix_iff_eq_drop.1 this).symm

theorem heldL_le (l : List Int) : (heldL l).length ≤ l.length := by have := behind_length l; omega

set_option maxRecDepth 100000 in
set_option maxHeartbeats 8000000 in
theorem pushes_walk (vl : Value) (rs : List (List Int)) (w : World) (hl : RdRows w vl rs) :
    Calls Try.prog 7 #[vl] w fun e w' => e = .returned (.bool true) ∧ Below w.heap.size w w' := by
  have hl' := hl
  obtain ⟨⟨a, cap, rfl, h1, h2⟩, h3⟩ := hl'
  clear h3
  have HL := Lib.hid hl; clear hl
  by_cases hbig : 20 < rs.length
  · have hbg : (20 : Int) < (rs.length : Int) := by omega
    clear hbig
    go_enter Try.func7, Try.ntmps7
    go_wp2_with fail
    refine (small_any _).mono ?_
    rintro e w1 ⟨rfl, rfl⟩
    go_wp2_with fail
    refine (new_any _).mono ?_
    rintro e w1 ⟨rfl, hm1, hb1⟩
    go_wp2_with fail
    refine (awake_any _).mono ?_
    rintro e w2 ⟨rfl, hb2⟩
    go_wp2
    go_ret
    exact ⟨rfl, hb1.trans (hb2.mono hb1.size)⟩
  · have hN : rs.length ≤ 20 := by omega
    have hbg : ¬ (20 : Int) < (rs.length : Int) := by omega
    clear hbig
    go_enter Try.func7, Try.ntmps7
    go_wp2_with fail
    refine (small_any _).mono ?_
    rintro e w1 ⟨rfl, rfl⟩
    go_wp2_with fail
    refine (new_any _).mono ?_
    rintro e w1 ⟨rfl, hm1, hb1⟩
    have hbB := hm1.lt
    have HM1 := Lib.hid hm1; clear hm1
    go_wp2
    go_loopw [5, 6, 7, 8, 9, 10] (fun v5 v6 i _ _ _ wr => ∃ (j : Nat) (hv : Value), j ≤ rs.length ∧ i = .int .i64 j ∧ (rs.take j).flatten.length ≤ 60 * j ∧
      PSt w.heap.size w1.heap.size w wr (rs.take j).flatten (behind (rs.take j).flatten) (heldL (rs.take j).flatten) v5 v6 hv) (fun _ _ i _ _ _ _ => rs.length - (intOf i).toNat)
    case atStart =>
      exact ⟨0, .slice none 0 0, Nat.zero_le _, rfl, by simp, Nat.le_refl _, hbB, Nat.le_refl _, Own.nil _ _ _ _, Own.nil _ _ _ _, HM1.out, Own.nil _ _ _ _,
        by simp [Value.ownBlock], by simp [Value.ownBlock], by simp [Value.ownBlock], by simp [Value.ownBlock], hb1⟩
    case round =>
      obtain ⟨j, hv, hj, rfl, hlen, hst⟩ := hrel
      obtain ⟨f, hf⟩ : ∃ f, (rs.take j).flatten = f := ⟨_, rfl⟩
      rw [hf] at hlen hst
      have HST := Lib.hid hst; clear hst
      have HF := Lib.hid hf; clear hf
      by_cases hlt : j < rs.length
      · obtain ⟨b1, o1, cap1, u, e1, hc, hu⟩ := HL.out.row j hlt
        simp only [Value.slice.injEq] at e1
        obtain ⟨rfl, _, rfl⟩ := e1
        obtain ⟨r, hr⟩ : ∃ r, rs.getD j [] = r := ⟨_, rfl⟩
        rw [hr] at hu
        obtain ⟨au, cu, rfl, _⟩ := hu.shape
        have HU := Lib.hid hu; clear hu
        have HR := Lib.hid hr; clear hr
        have hc0 := cell_lt hc
        have hcr : wr.cell? ⟨b1, o1 + j, none⟩ = some (.slice au r.length cu) := by rw [HST.out.below.cell hc0]; exact hc
        have i1 : (0 : Int) ≤ (j : Int) := by omega
        have i2 : (j : Int) < (rs.length : Int) := by omega
        by_cases h60 : 60 < r.length
        · have h6 : (60 : Int) < (r.length : Int) := by omega
          go_wp2_with fail
          refine (awake_any _).mono ?_
          rintro e w2 ⟨rfl, hb2⟩
          go_wp2
          go_ret
          exact ⟨rfl, HST.out.below.trans (hb2.mono HST.out.below.size)⟩
        · have h6 : ¬ (60 : Int) < (r.length : Int) := by omega
          obtain ⟨g, hg⟩ : ∃ g, f ++ r = g := ⟨_, rfl⟩
          have hgl : g.length = f.length + r.length := by rw [← hg]; simp
          have hgb : behind f ++ (pushL (heldL f) r).1 = behind g := by rw [← hg, behind_append]
          have hgh : (pushL (heldL f) r).2 = heldL g := by rw [← hg, heldL_append]
          have hbl := behind_length f
          have hbg' := behind_length g
          have hpl := pushL_sizes (heldL f) r
          have hg5 : g.length ≤ 1200 := by omega
          have HG := Lib.hid hg; clear hg
          have HGL := Lib.hid hgl; clear hgl
          have HGB := Lib.hid hgb; clear hgb
          have HGH := Lib.hid hgh; clear hgh
          have HBL := Lib.hid hbl; clear hbl
          have HBG := Lib.hid hbg'; clear hbg'
          have HPL := Lib.hid hpl; clear hpl
          go_wp2_with (at_builtin; refine wpList_appendS rune rfl _ _ rfl w1.heap.size _ _ HST.out.own5 rfl _ _ (HU.out.mono HST.out.below rfl) rfl (by omega) (by omega) HST.out.hBr ?_; intro v5' w2 hown5 hg5 hat5; rw [HG.out] at hown5; have hs2 := Lib.hid (HST.out.all hown5 hg5 hat5); clear hown5 hg5 hat5; have hc2 : w2.cell? ⟨b1, o1 + j, none⟩ = some (.slice au r.length cu) := by (rw [hs2.out.below.cell hc0]; exact hc))
          refine (push_any w.heap.size hv _ (heldL f) r w2 hs2.out.mover hs2.out.ownH hs2.out.hne (HU.out.mono hs2.out.below rfl)
            (fun hx k hk => ⟨by have := HU.out.lt hx k hk; omega, fun e => by have := HU.out.lt hx k hk; have := hs2.out.hB k e; have := hs2.out.hbB; omega⟩) (by have := HBL.out; omega)).mono ?_
          rintro e w3 ⟨out, hv', rfl, hpr⟩
          have hs3 := Lib.hid (hs2.out.push hpr)
          have HPO := Lib.hid hpr.ownO
          clear hpr
          go_wp2_with (at_builtin; refine wpList_appendS rune rfl _ _ rfl w1.heap.size _ _ hs3.out.own6 rfl _ _ HPO.out.rd rfl (by have := HBL.out; have := HPL.out; omega) (by have := HBL.out; have := HPL.out; omega) hs3.out.hBr ?_; intro v6' w4 hown6 hg6 hat6; have hs4 := hs3.out.out hown6 hg6 hat6; rw [HGB.out, HGH.out] at hs4; have hs4 := Lib.hid hs4; clear hown6 hg6 hat6)
          refine (small_any _).mono ?_
          rintro e w5 ⟨rfl, rfl⟩
          go_wp2_with fail
          refine (behind_any _ g _ hs4.out.own5.rd (by omega)).mono ?_
          rintro e w5 ⟨o5, rfl, ho5, hb5⟩
          have HO5 := Lib.hid ho5.rd; clear ho5
          have hs5 := Lib.hid (hs4.out.on hb5)
          obtain ⟨ah, ch, rfl, _⟩ := hs5.out.ownH.shape
          have hn1 : (((heldL g).length : Int) != ((heldL g).length : Int)) = false := by simp
          go_wp2_with fail
          refine (held_any _ _ _ _ _ hs5.out.mover).mono ?_
          rintro e w6 ⟨rfl, rfl⟩
          go_wp2_with fail
          refine (same_reflP _ _ (behind g) _ hs5.out.own6.rd HO5.out).mono ?_
          rintro e w6 ⟨rfl, hb6⟩
          have hs6 := Lib.hid (hs5.out.on hb6)
          go_wp2
          go_roundw
          case rel =>
            refine ⟨j + 1, .slice ah (heldL g).length ch, by omega, by go_num, ?_⟩
            have : (rs.take (j + 1)).flatten = g := by rw [flat_take rs j hlt, HF.out, HR.out, HG.out]
            rw [this]
            exact ⟨by have := HGL.out; omega, hs6.out⟩
          case measure => simp [intOf]; omega
      · have hfl : f.length ≤ 1200 := by omega
        have hhl := heldL_le f
        have hdr := heldL_drop f
        obtain ⟨a5, c5, hv5, hc5, hm5, hs5⟩ := HST.out.own5.shape
        subst hv5
        obtain ⟨ah, ch, hvh, _⟩ := HST.out.ownH.shape
        subst hvh
        have HO5 := Lib.hid HST.out.own5
        have HOH := Lib.hid HST.out.ownH
        obtain ⟨h, hh⟩ : ∃ h, heldL f = h := ⟨_, rfl⟩
        have hmv := HST.out.mover
        have HBL := Lib.hid HST.out.below
        have HBB := Lib.hid HST.out.hbw
        have HB2 := Lib.hid HST.out.hbB
        have hbh := HST.out.hB
        clear HST
        rw [hh] at hhl hdr HOH hmv hbh
        have HBH := Lib.hid hbh; clear hbh
        have HH := Lib.hid hh; clear hh
        obtain ⟨q, hq⟩ : ∃ q : Nat, IntKind.i64.wrap ((f.length : Int) - (h.length : Int)) = (q : Int) := ⟨f.length - h.length, by rw [IntWalk.i64_in _ (by omega)]; omega⟩
        have hq' : f.length - h.length = q := by rw [IntWalk.i64_in _ (by omega)] at hq; omega
        rw [hq'] at hdr
        have HDR := Lib.hid hdr; clear hdr
        have HQ := Lib.hid hq'
        have i1 : ¬ (h.length : Int) < 0 := by omega
        have i2 : ¬ (f.length : Int) < (h.length : Int) := by omega
        have i3 : (0 : Int) ≤ (q : Int) := by omega
        have i4 : (q : Int) ≤ (f.length : Int) := by omega
        have i5 : (f.length : Int) ≤ (c5 : Int) := by omega
        clear hq'
        have HMV := Lib.hid hmv
        go_wp2_with fail
        refine (held_any _ _ _ _ _ HMV.out).mono ?_
        rintro e w2 ⟨rfl, rfl⟩
        go_wp2_with fail
        refine (flush_any _ _ _ _ _ HMV.out).mono ?_
        rintro e w2 ⟨rfl, hm2, hk2⟩
        have HM2 := Lib.hid hm2; clear hm2
        go_wp2_with fail
        refine (flush_any _ _ _ _ _ HM2.out).mono ?_
        rintro e w3 ⟨rfl, hm3, hk3⟩
        have HM3 := Lib.hid hm3; clear hm3
        have hk : Keep (fun j => j = w.heap.size) _ w3 := hk2.trans hk3 (fun _ _ h => h)
        have hb3 : Below w.heap.size w w3 := HBL.out.trans (hk.below HBL.out.size (fun j hj => by subst hj; exact Nat.le_refl _))
        have hrH := HOH.out.rd.keep hk (fun j hj e => by have := HBH.out j hj; have := HB2.out; omega)
        have hrA := HO5.out.rd.keep hk (fun j hj e => by have := (HO5.out.lt j hj).1; have := HB2.out; omega)
        have HRH := Lib.hid hrH; clear hrH
        have HRA := Lib.hid hrA; clear hrA
        have hz0 : (h.length : Int) = (h.length : Int) := rfl
        rcases hs5 with ⟨rfl, rfl, rfl⟩ | ⟨g, rfl, hg1, hg2⟩
        · obtain rfl : h = [] := List.eq_nil_of_length_eq_zero (by simp at hhl; simp [hhl])
          obtain rfl : q = 0 := by have := HQ.out; simp at this; omega
          have HR0 : Rd .i32 w3 (.slice ah 0 ch) [] := HRH.out
          go_wp2_with fail
          refine (same_reflP _ _ [] _ HR0 (Rd.nil _ _)).mono ?_
          rintro e w4 ⟨rfl, hb4⟩
          have hbb4 : Below w.heap.size w w4 := hb3.trans (hb4.mono hb3.size)
          go_wp2_with fail
          refine (held_any _ none 0 0 _ (HM3.out.below hb4 HM3.out.lt)).mono ?_
          rintro e w5 ⟨rfl, rfl⟩
          go_wp2_with fail
          refine (awake_any _).mono ?_
          rintro e w5 ⟨rfl, hb5⟩
          go_wp2
          go_ret
          exact ⟨rfl, hbb4.trans (hb5.mono hbb4.size)⟩
        · by_cases hca : c5 = q
          · have hfq : f.length = q := by omega
            have hh0 : h = [] := List.eq_nil_of_length_eq_zero (by have := HQ.out; omega)
            subst hh0
            subst hca
            have HR0 : Rd .i32 w3 (.slice ah 0 ch) [] := HRH.out
            go_wp2_with fail
            refine (same_reflP _ _ [] _ HR0 (rd_nil' _ _ _ _ (by omega))).mono ?_
            rintro e w4 ⟨rfl, hb4⟩
            have hbb4 : Below w.heap.size w w4 := hb3.trans (hb4.mono hb3.size)
            go_wp2_with fail
            refine (held_any _ none 0 0 _ (HM3.out.below hb4 HM3.out.lt)).mono ?_
            rintro e w5 ⟨rfl, rfl⟩
            go_wp2_with fail
            refine (awake_any _).mono ?_
            rintro e w5 ⟨rfl, hb5⟩
            go_wp2
            go_ret
            exact ⟨rfl, hbb4.trans (hb5.mono hbb4.size)⟩
          · have HD : Rd .i32 w3 (.slice (some ⟨g, q, none⟩) (f.length - q) (c5 - q)) h := by
              have := rd_sub (c := c5 - q) (HRA.out.cells) (f := q) (i := f.length) (by omega) (Nat.le_refl _) (by omega) (by omega)
              rw [List.take_length, HDR.out, Nat.zero_add] at this
              exact this
            have HD := Lib.hid HD
            go_wp2_with fail
            refine (same_reflP _ _ h _ HRH.out HD.out).mono ?_
            rintro e w4 ⟨rfl, hb4⟩
            have hbb4 : Below w.heap.size w w4 := hb3.trans (hb4.mono hb3.size)
            go_wp2_with fail
            refine (held_any _ none 0 0 _ (HM3.out.below hb4 HM3.out.lt)).mono ?_
            rintro e w5 ⟨rfl, rfl⟩
            go_wp2_with fail
            refine (awake_any _).mono ?_
            rintro e w5 ⟨rfl, hb5⟩
            go_wp2
            go_ret
            exact ⟨rfl, hbb4.trans (hb5.mono hbb4.size)⟩

end Go.Proofs.Ytmipppnioanjeaa
