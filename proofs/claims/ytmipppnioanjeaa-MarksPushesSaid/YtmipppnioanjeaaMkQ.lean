/-
  Contracts of the document's answer for layer 14: Behind.
-/
import Derived.Test.YtmipppnioanjeaaMkD
import Derived.Deep.QuietTactic
import Derived.BigQuiet
namespace Go.Proofs.Ytmipppnioanjeaa
open Go.RowKit Pl14

set_option maxRecDepth 100000 in
set_option maxHeartbeats 4000000 in
theorem refBehind_any (vl : Value) (xs : List Int) (w : World) (hl : Rd .i32 w vl xs) (hsz : xs.length ≤ 1000000) :
    Calls Try.prog 12 #[vl] w fun e w' => ∃ out, e = .returned (.tuple #[out, .int .i64 (heldL xs).length]) ∧ Own 21 .i32 w.heap.size w' out (behind xs) ∧ Below w.heap.size w w' := by
  obtain ⟨a, ca, rfl, ha1, ha2, _, ha3⟩ := hl
  have HA := Lib.hid ha3; clear ha3
  have hcell : ∀ wr, Below w.heap.size w wr → ∀ k, k < xs.length → ∃ b o, a = some ⟨b, o, none⟩ ∧ wr.cell? ⟨b, o + k, none⟩ = some (.int .i32 (xs.getD k 0)) := by
    intro wr hb k hk
    rcases HA.out with h | ⟨b, o, h, hc⟩
    · rw [h] at hk; simp at hk
    · exact ⟨b, o, h, by rw [hb.cell (cell_lt (hc k hk))]; exact hc k hk⟩
  have HC := Lib.hid hcell; clear hcell
  go_enter Try.func12, Try.ntmps12
  go_wp2
  go_loopw [4, 5, 6] (fun v i _ wr => ∃ (k : Nat), k ≤ xs.length ∧ i = .int .i64 k ∧ Own 21 .i32 w.heap.size wr v (behind (xs.take k)) ∧ Below w.heap.size w wr) (fun _ i _ _ => xs.length - (intOf i).toNat)
  case atStart => exact ⟨0, Nat.zero_le _, rfl, Own.nil _ _ _ _, Below.refl _ _⟩
  case round =>
    obtain ⟨i, hi, rfl, hown, hbl⟩ := hrel
    have HO := Lib.hid hown; clear hown
    have hsz1 : (behind (xs.take i)).length ≤ i := by have := behind_length (xs.take i); simp at this; omega
    by_cases hlt : i < xs.length
    · obtain ⟨b1, o1, rfl, c1⟩ := HC.out wr hbl i hlt
      have hbs := hbl.size
      obtain ⟨x, hx⟩ : ∃ x, xs.getD i 0 = x := ⟨_, rfl⟩
      rw [hx] at c1
      have HX := Lib.hid hx; clear hx
      by_cases hx0 : cls x = 0
      · have hd : decide (cls x ≠ 0) = false := by simp [hx0]
        have HX0 := Lib.hid hx0; clear hx0
        go_wp2_with fail
        refine (mark_any _ _).mono ?_
        rintro e w1 ⟨rfl, hb1⟩
        rw [hd]
        have hO1 := HO.out.kept rfl hb1
        have hbl1 : Below w.heap.size w w1 := hbl.trans (hb1.mono hbs)
        obtain ⟨b2, o2, hab, c2⟩ := HC.out w1 hbl1 i hlt
        simp only [Option.some.injEq, Addr.mk.injEq, and_true] at hab
        obtain ⟨rfl, rfl⟩ := hab
        rw [HX.out] at c2
        have hs1 := hbl1.size
        go_wp2_with (at_builtin; refine wpList_append1 rune rfl _ _ rfl w.heap.size _ _ hO1 rfl x _ rfl (by omega) (by omega) hs1 ?_; intro v2 w2 hown2 hg2 _)
        have hbl2 : Below w.heap.size w w2 := below_append hbl1 hs1 hg2 hO1.lt
        clear c1 c2 hO1 hbl1 hb1 hg2 hs1 hbl hbs
        go_loopw [6] (fun z wx => ∃ (k : Nat), k ≤ i ∧ z = .int .i64 k ∧ (∀ j, k ≤ j → j < i → cls (xs.getD j 0) ≠ 0) ∧ Own 21 .i32 w.heap.size wx v2 (behind (xs.take i) ++ [x]) ∧ Below w.heap.size w wx) (fun z _ => (intOf z).toNat)
        case atStart => exact ⟨i, Nat.le_refl _, rfl, fun j _ _ => by omega, hown2, hbl2⟩
        case round =>
          obtain ⟨k, hk, rfl, hm, hox, hbx⟩ := hrel
          have HM := Lib.hid hm; clear hm
          have HOX := Lib.hid hox; clear hox
          have HBX := Lib.hid hbx; clear hbx
          have hsx : w.heap.size ≤ wr.heap.size := HBX.out.size
          clear hown2 hbl2
          by_cases hk0 : 0 < k
          · obtain ⟨k', hk'⟩ : ∃ k' : Nat, IntKind.i64.wrap ((k : Int) - 1) = (k' : Int) := ⟨k - 1, by rw [IntWalk.i64_in _ (by omega)]; omega⟩
            have hk'' : k = k' + 1 := by rw [IntWalk.i64_in _ (by omega)] at hk'; omega
            obtain ⟨b3, o3, hab, c3⟩ := HC.out wr HBX.out k' (by omega)
            simp only [Option.some.injEq, Addr.mk.injEq, and_true] at hab
            obtain ⟨rfl, rfl⟩ := hab
            have j1 : (0 : Int) ≤ (k' : Int) := by omega
            have j2 : (k' : Int) < (xs.length : Int) := by omega
            have HK := Lib.hid hk''; clear hk''
            obtain ⟨y, hy⟩ : ∃ y, xs.getD k' 0 = y := ⟨_, rfl⟩
            rw [hy] at c3
            have HY := Lib.hid hy; clear hy
            by_cases hy0 : cls y = 0
            · have hd3 : decide (cls y ≠ 0) = false := by simp [hy0]
              have HY0 := Lib.hid hy0; clear hy0
              go_wp2_with fail
              refine (mark_any _ _).mono ?_
              rintro e w5 ⟨rfl, hb5⟩
              rw [hd3]
              have HOX5 := Lib.hid (HOX.out.kept rfl hb5)
              have HBX5 := Lib.hid (HBX.out.trans (hb5.mono hsx))
              have hs5 : w.heap.size ≤ w5.heap.size := HBX5.out.size
              clear c3 hb5 HOX HBX hsx
              have hkca : ¬ ca = k := by omega
              have hk1 : k ≤ i := hk
              have hkx : k ≤ xs.length := by omega
              have hrd := rd_sub (c := ca - k) (fun j hj => by obtain ⟨b3, o3, h3, c3⟩ := HC.out w5 HBX5.out j hj; simp only [Option.some.injEq, Addr.mk.injEq, and_true] at h3; obtain ⟨rfl, rfl⟩ := h3; exact c3) hk (by omega) (by omega) (by omega)
              have HRD := Lib.hid hrd; clear hrd
              have hlen2 : (behind (xs.take i) ++ [x]).length ≤ i + 1 := by simp; omega
              have hlen3 : ((xs.take i).drop k).length ≤ i := by simp; omega
              go_wp2_with (at_builtin; refine wpList_appendS rune rfl _ _ rfl w.heap.size _ _ HOX5.out rfl _ _ HRD.out rfl (by omega) (by omega) hs5 ?_; intro v3 w3 hown3 hg3 _)
              go_wp2
              go_roundw
              case rel =>
                refine ⟨i + 1, by omega, by go_num, ?_, below_append' HBX5.out hs5 hg3 HOX5.out.lt⟩
                rw [behind_take_base xs k i hlt (by rw [HX.out]; exact HX0.out) hk HM.out (.inr (by rw [show k - 1 = k' from by have := HK.out; omega, HY.out]; exact HY0.out)), HX.out]
                exact hown3
              case measure => simp [intOf]; omega
            · have hd3 : decide (cls y ≠ 0) = true := by simp [hy0]
              go_wp2_with fail
              refine (mark_any _ _).mono ?_
              rintro e w5 ⟨rfl, hb5⟩
              rw [hd3]
              go_wp2
              go_roundw
              case rel =>
                have hkk := HK.out
                refine ⟨k', by omega, rfl, ?_, HOX.out.kept rfl hb5, HBX.out.trans (hb5.mono hsx)⟩
                intro j h1 h2
                by_cases e : j = k'
                · subst e; rw [HY.out]; exact hy0
                · exact HM.out j (by omega) h2
              case measure => have := HK.out; simp [intOf]; omega
          · have hz : ¬ ((0 : Int) < (k : Int)) := by omega
            have hkca : ¬ ca = k := by omega
            have hk1 : k ≤ i := hk
            have hkx : k ≤ xs.length := by omega
            have hrd := rd_sub (c := ca - k) (fun j hj => by obtain ⟨b3, o3, h3, c3⟩ := HC.out wr HBX.out j hj; simp only [Option.some.injEq, Addr.mk.injEq, and_true] at h3; obtain ⟨rfl, rfl⟩ := h3; exact c3) hk (by omega) (by omega) (by omega)
            have HRD := Lib.hid hrd; clear hrd
            have hlen2 : (behind (xs.take i) ++ [x]).length ≤ i + 1 := by simp; omega
            have hlen3 : ((xs.take i).drop k).length ≤ i := by simp; omega
            go_wp2_with (at_builtin; refine wpList_appendS rune rfl _ _ rfl w.heap.size _ _ HOX.out rfl _ _ HRD.out rfl (by omega) (by omega) hsx ?_; intro v3 w3 hown3 hg3 _)
            go_wp2
            go_roundw
            case rel =>
              refine ⟨i + 1, by omega, by go_num, ?_, below_append' HBX.out hsx hg3 HOX.out.lt⟩
              rw [behind_take_base xs k i hlt (by rw [HX.out]; exact HX0.out) hk HM.out (.inl (by omega)), HX.out]
              exact hown3
            case measure => simp [intOf]; omega
      · have hd : decide (cls x ≠ 0) = true := by simp [hx0]
        go_wp2_with fail
        refine (mark_any _ _).mono ?_
        rintro e w1 ⟨rfl, hb1⟩
        rw [hd]
        go_wp2
        go_roundw
        case rel => exact ⟨i + 1, by omega, by go_num, by rw [behind_take_mark xs i hlt (by rw [HX.out]; exact hx0)]; exact HO.out.kept rfl hb1, hbl.trans (hb1.mono hbs)⟩
        case measure => simp [intOf]; omega
    · have hfull : xs.take i = xs := List.take_of_length_le (by omega)
      have hO := HO.out
      rw [hfull] at hO
      have HO := Lib.hid hO; clear hO hfull hsz1
      have HOUT := Lib.hid (show Own 21 .i32 w.heap.size wr _ (behind xs) from HO.out)
      clear HO
      obtain ⟨wo, rfl⟩ : ∃ wo : World, wo = wr := ⟨_, rfl⟩
      go_wp2
      go_loopw [7] (fun z wx => ∃ (n : Nat), n ≤ xs.length ∧ z = .int .i64 n ∧ (∀ j, xs.length - n ≤ j → j < xs.length → cls (xs.getD j 0) ≠ 0) ∧ Below wo.heap.size wo wx) (fun z _ => xs.length - (intOf z).toNat)
      case atStart => exact ⟨0, Nat.zero_le _, rfl, fun j h1 h2 => by omega, Below.refl _ _⟩
      case round =>
        obtain ⟨n, hn, rfl, hm, hbx⟩ := hrel
        have HM := Lib.hid hm; clear hm
        have hbw : Below w.heap.size w wr := hbl.trans (hbx.mono hbl.size)
        by_cases hlt2 : n < xs.length
        · obtain ⟨q, hq⟩ : ∃ q : Nat, (xs.length : Int) - 1 - (n : Int) = (q : Int) := ⟨xs.length - 1 - n, by omega⟩
          have hq' : q = xs.length - 1 - n := by omega
          have HQ := Lib.hid hq'; clear hq'
          have hqN : q < xs.length := by omega
          obtain ⟨b3, o3, rfl, c3⟩ := HC.out wr hbw q hqN
          have i1 : (0 : Int) ≤ (q : Int) := by omega
          have i2 : (q : Int) < (xs.length : Int) := by omega
          obtain ⟨y, hy⟩ : ∃ y, xs.getD q 0 = y := ⟨_, rfl⟩
          rw [hy] at c3
          have HY := Lib.hid hy; clear hy
          by_cases hy0 : cls y = 0
          · have hd3 : decide (cls y ≠ 0) = false := by simp [hy0]
            have HY0 := Lib.hid hy0; clear hy0
            go_wp2_with fail
            refine (mark_any _ _).mono ?_
            rintro e w5 ⟨rfl, hb5⟩
            rw [hd3]
            have hb6 := hbx.trans (hb5.mono hbx.size)
            go_wp2
            go_ret2
            rw [heldL_at xs n hn HM.out (.inr (by rw [show xs.length - n - 1 = q from by have := HQ.out; omega, HY.out]; exact HY0.out))]
            exact ⟨_, rfl, HOUT.out.kept rfl hb6, hbl.trans (hb6.mono hbl.size)⟩
          · have hd3 : decide (cls y ≠ 0) = true := by simp [hy0]
            go_wp2_with fail
            refine (mark_any _ _).mono ?_
            rintro e w5 ⟨rfl, hb5⟩
            rw [hd3]
            go_wp2
            go_roundw
            case rel =>
              refine ⟨n + 1, by omega, by go_num, ?_, hbx.trans (hb5.mono hbx.size)⟩
              intro j h1 h2
              by_cases e : j = q
              · subst e; rw [HY.out]; exact hy0
              · exact HM.out j (by have := HQ.out; omega) h2
            case measure => simp [intOf]; omega
        · have hz : ¬ ((n : Int) < (xs.length : Int)) := by omega
          go_wp2
          go_ret2
          rw [heldL_at xs n hn HM.out (.inl (by omega))]
          exact ⟨_, rfl, HOUT.out.kept rfl hbx, hbw⟩

end Go.Proofs.Ytmipppnioanjeaa
