/-
  Layer 6 (trie): the document's answer: how many blocks.
-/
import Derived.Test.YtkpkcimghkmkfaaTrS
namespace Go.Proofs.Ytkpkcimghkmkfaa
open Go.RowKit

theorem LastAt.lt {l : List Pc} {last : Int} (h : LastAt l last) : -1 ≤ last ∧ last < 4352 := by
  rcases h.is with ⟨h1, _⟩ | ⟨c, h1, h2, _⟩ <;> omega

set_option maxRecDepth 100000 in
set_option maxHeartbeats 8000000 in
theorem ref_blocks (base rb : Nat) (z : Int) (L : List Pc) (v : Value) (w : World) (hR : RefAt w base rb z L v) (hL : L.length ≤ 1000000) :
    Calls Try.prog 28 #[.pointer (some ⟨rb, 0, none⟩)] w fun e w' => e = .returned (.int .i64 (cntB z (refF z L))) ∧ Below w.heap.size w w' := by
  have hA := Lib.hid (ref_all base rb z L v w hR hL)
  clear hR
  go_enter Try.func28, Try.ntmps28
  go_wp2_with fail
  refine hA.out.mono ?_
  rintro e w1 ⟨l, vo, rfl, hRun, hrow, hB⟩
  clear hA
  obtain ⟨k, hk⟩ : ∃ k, l.length = k := ⟨_, rfl⟩
  have hkn : k ≤ 1114112 := by rw [← hk]; exact hRun.toPieces.len
  rw [hk] at hrow
  obtain ⟨ad, cap, rfl, hc1, hc2, had⟩ := ownsRow_shapeN hrow
  have HRun := Lib.hid hRun; clear hRun
  have HRow := Lib.hid hrow; clear hrow
  have HB := Lib.hid hB; clear hB
  have HK := Lib.hid hk; clear hk
  have HAD := Lib.hid had; clear had
  go_wp2
  go_loop [4, 5, 6] (fun s4 s5 s6 => ∃ (i : Nat) (last : Int) (cnt : Nat), i ≤ k ∧ s6 = .int .i64 i ∧ s4 = .int .i64 cnt ∧ s5 = .int .i32 last ∧ cnt = cntT (l.take i) ∧ LastAt (l.take i) last) (fun _ _ s6 => k - (intOf s6).toNat)
  case atStart => exact ⟨0, -1, 0, Nat.zero_le _, rfl, rfl, rfl, by unfold cntT; rw [List.take_zero, List.filter_eq_nil_iff.2 (by simp [touchB])]; rfl, by simpa using LastAt.start⟩
  case round =>
    obtain ⟨i, last, cnt, hi, rfl, rfl, rfl, hcnt, hLast⟩ := hrel
    have hcl : cnt ≤ 4352 := by rw [hcnt]; unfold cntT; exact Nat.le_trans (List.length_filter_le _ _) (by simp)
    have hll := hLast.lt
    have HCNT := Lib.hid hcnt; clear hcnt
    have HLast := Lib.hid hLast; clear hLast
    by_cases hlt : i < k
    · have hik : i < l.length := by rw [HK.out]; exact hlt
      obtain ⟨g, rfl⟩ : ∃ g, ad = some ⟨g, 0, none⟩ := by
        rcases HAD.out with ⟨_, _, h0⟩ | ⟨g, h, _⟩
        · omega
        · exact ⟨g, h⟩
      obtain ⟨s, hs⟩ : ∃ s, l[i] = s := ⟨_, rfl⟩
      have hgd : l.getD i s = s := by rw [List.getD_eq_getElem?_getD, List.getElem?_eq_getElem hik, hs]; rfl
      have htk : l.take (i + 1) = l.take i ++ [s] := by rw [List.take_succ_eq_append_getElem hik, hs]
      have c0 : w1.cell? ⟨g, i * 3, none⟩ = some (.int .i32 (s.1.val : Int)) := by
        have := flat_at cells3_len s l i 0 hik (by omega)
        rw [HRow.out.cellAt _ (by omega), ← Nat.add_zero (i * 3), this, hgd]; rfl
      have c1 : w1.cell? ⟨g, i * 3 + 1, none⟩ = some (.int .i32 (s.2.1.val : Int)) := by
        rw [HRow.out.cellAt _ (by omega), flat_at cells3_len s l i 1 hik (by omega), hgd]; rfl
      have i0 : (0 : Int) ≤ (i : Int) := by omega
      have i1 : (i : Int) < (k : Int) := by omega
      have hmem : s ∈ l := by rw [← hs]; exact List.getElem_mem hik
      have hpre : ∀ t ∈ l.take i, t.2.1.val < s.1.val := by
        have hr := HRun.out.rise
        rw [← List.take_append_drop (i + 1) l, htk] at hr
        have h2 := (List.pairwise_append.1 hr).1
        exact fun t ht => (List.pairwise_append.1 h2).2.2 t ht s (by simp)
      obtain ⟨qa, hqa⟩ : ∃ qa : Nat, (s.1.val : Int) / 256 = (qa : Int) := ⟨s.1.val / 256, by omega⟩
      obtain ⟨qb, hqb⟩ : ∃ qb : Nat, (s.2.1.val : Int) / 256 = (qb : Int) := ⟨s.2.1.val / 256, by omega⟩
      have hst := cntT_step HLast.out (HRun.out.each s hmem).1 hpre hqa.symm hqb.symm
      have hs1 := s.1.isLt
      have hs2 := s.2.1.isLt
      have hsle := (HRun.out.each s hmem).1
      have hqab : qa ≤ qb ∧ qb < 4352 := by omega
      have HST := Lib.hid hst; clear hst
      have HTK := Lib.hid htk; clear htk
      clear hpre hmem hgd
      obtain ⟨sa, hsa⟩ : ∃ x, s.1.val = x := ⟨_, rfl⟩
      obtain ⟨sb, hsb⟩ : ∃ x, s.2.1.val = x := ⟨_, rfl⟩
      rw [hsa] at c0 hqa
      rw [hsb] at c1 hqb
      clear hs1 hs2 hsle hsa hsb hs
      by_cases e1 : (qa : Int) = last
      · have e1' : ((qa : Int) == last) = true := by rw [beq_iff_eq]; exact e1
        have E1 := Lib.hid e1; clear e1
        have hw1 : IntKind.i32.wrap ((qa : Int) + 1) = ((qa + 1 : Nat) : Int) := by rw [IntWalk.i32_in _ (by omega)]; omega
        by_cases e2 : qa + 1 ≤ qb
        · have e2' : ((qa + 1 : Nat) : Int) ≤ (qb : Int) := by omega
          obtain ⟨d, hd⟩ : ∃ d : Nat, (qb : Int) - ((qa + 1 : Nat) : Int) = (d : Int) := ⟨qb - (qa + 1), by omega⟩
          have hw2 : IntKind.i32.wrap ((qb : Int) - ((qa + 1 : Nat) : Int)) = (d : Int) := by rw [IntWalk.i32_in _ (by omega)]; exact hd
          have hdl : d ≤ 4352 := by omega
          have hres := (HST.out.1 E1.out).1 (by omega)
          have hDD : cnt + d + 1 = cntT (l.take i ++ [s]) := by rw [hres.1, ← HCNT.out]; omega
          have HRES := Lib.hid (And.intro hDD hres.2); clear hDD hres; have HD := Lib.hid hd; clear hd
          go_wp2
          go_round
          case rel => have hd := HD.out; exact ⟨i + 1, (qb : Int), cnt + d + 1, by omega, by go_num, by go_num, rfl, by rw [HTK.out]; exact HRES.out.1, by rw [HTK.out]; exact HRES.out.2⟩
          case measure => simp [intOf]; omega
        · have e2' : ¬ ((qa + 1 : Nat) : Int) ≤ (qb : Int) := by omega
          have hres := (HST.out.1 E1.out).2 (by omega)
          have HRES := Lib.hid hres; clear hres
          go_wp2
          go_round
          case rel => exact ⟨i + 1, last, cnt, by omega, by go_num, rfl, rfl, by rw [HTK.out, HRES.out.1]; exact HCNT.out, by rw [HTK.out]; exact HRES.out.2⟩
          case measure => simp [intOf]; omega
      · have e1' : ((qa : Int) == last) = false := by rw [← Bool.not_eq_true, beq_iff_eq]; exact e1
        have hres := HST.out.2 e1
        have E1 := Lib.hid e1; clear e1
        have e2' : (qa : Int) ≤ (qb : Int) := by omega
        obtain ⟨d, hd⟩ : ∃ d : Nat, (qb : Int) - (qa : Int) = (d : Int) := ⟨qb - qa, by omega⟩
        have hw2 : IntKind.i32.wrap ((qb : Int) - (qa : Int)) = (d : Int) := by rw [IntWalk.i32_in _ (by omega)]; exact hd
        have hdl : d ≤ 4352 := by omega
        have hDD : cnt + d + 1 = cntT (l.take i ++ [s]) := by rw [hres.2.1, ← HCNT.out]; omega
        have HRES := Lib.hid (And.intro hDD hres.2.2); clear hDD hres; have HD := Lib.hid hd; clear hd
        go_wp2
        go_round
        case rel => have hd := HD.out; exact ⟨i + 1, (qb : Int), cnt + d + 1, by omega, by go_num, by go_num, rfl, by rw [HTK.out]; exact HRES.out.1, by rw [HTK.out]; exact HRES.out.2⟩
        case measure => simp [intOf]; omega
    · have i2 : ¬ (i : Int) < (k : Int) := by omega
      have hik : i = k := by omega
      have hfin : cnt = cntB z (refF z L) := by rw [HCNT.out, hik, ← HK.out, List.take_length]; exact HRun.out.count
      have HF := Lib.hid hfin; clear hfin
      go_wp2
      go_ret
      exact ⟨ret_int (by rw [HF.out]), HB.out⟩

end Go.Proofs.Ytkpkcimghkmkfaa
