/-
  Contract: marks.Sequences.
-/
import Derived.Test.YtmipppnioanjeaaMkS
namespace Go.Proofs.Ytmipppnioanjeaa
open Go.RowKit Go.Shelf Pl14

set_option maxRecDepth 100000 in
set_option maxHeartbeats 4000000 in
theorem sequences_any (vl : Value) (xs : List Int) (w : World) (hl : Rd .i32 w vl xs) (hsz : xs.length ≤ 1000000) :
    Calls Try.prog 16 #[.iface 52 (.agg #[]), vl] w fun e w' => ∃ v vs, e = .returned (.tuple #[v, .int .i64 0]) ∧ Rows2 w.heap.size w' v vs (seqs xs) ∧ Below w.heap.size w w' := by
  obtain ⟨a, ca, rfl, ha1, ha2, _, ha3⟩ := hl
  have HA := Lib.hid ha3; clear ha3
  have hna := nilAhead_small
  have hme := method_small
  go_enter Try.func16, Try.ntmps16
  go_wp2
  go_loopw [6, 14] (fun v i wr => ∃ (k : Nat) (vs : List Value), k ≤ xs.length ∧ i = .int .i64 k ∧ Rows2 w.heap.size wr v vs (seqs (xs.take k)) ∧ Below w.heap.size w wr) (fun _ i _ => xs.length - (intOf i).toNat)
  case atStart => exact ⟨0, [], Nat.zero_le _, rfl, Rows2.nil _ _, Below.refl _ _⟩
  case round =>
    obtain ⟨k, vs, hk, rfl, hr, hbl⟩ := hrel
    have hbs := hbl.size
    by_cases hlt : k < xs.length
    · rcases HA.out with rfl | ⟨b1, o1, rfl, hc1⟩
      · simp at hlt
      have c1 : wr.cell? ⟨b1, o1 + k, none⟩ = some (.int .i32 (xs.getD k 0)) := by rw [hbl.cell (cell_lt (hc1 k hlt))]; exact hc1 k hlt
      obtain ⟨x, hx⟩ : ∃ x, xs.getD k 0 = x := ⟨_, rfl⟩
      rw [hx] at c1
      have HT := Lib.hid (take_snoc xs k hlt)
      rw [hx] at HT
      clear hx hc1
      have hlen := seqs_take_length xs k
      have hvl := hr.len
      have hvs : vs.length ≤ 1000000 := by omega
      have HLEN := Lib.hid hvl; clear hvl hlen
      have HR := Lib.hid hr; clear hr
      by_cases hnew : seqs (xs.take k) = [] ∨ cls x = 0
      · have hfin : seqs (xs.take (k + 1)) = (seqs (xs.take k) ++ [[]]).set vs.length ((seqs (xs.take k) ++ [[]]).getD vs.length [] ++ [x]) := by
          rw [HT.out, seqs_snoc]
          unfold seqPush
          rw [if_pos hnew, HLEN.out]
          simp
        have HFIN := Lib.hid hfin; clear hfin
        by_cases hk0 : k = 0
        · have hkb : ((k : Int) == 0) = true := by simp; omega
          have HK0 := Lib.hid hk0; clear hk0
          have HRQ := HR.out
          have hsq := hbs
          have hblq := hbl
          have HR2 := Lib.hid HRQ
          have tok1 : True := trivial
          go_wp2_with (first
            | (at_builtin; have _t := tok1; refine wpList_append1V runes rfl _ _ rfl w.heap.size _ _ HRQ.outer rfl (.slice none 0 0) _ rfl rfl (by omega) (by omega) hsq ?_; intro v2 w2 hown2 hg2 hat2; clear tok1 _t; obtain ⟨g2, cap2, rfl, hR2, hc2, hb2, hcap1, hcap2⟩ := HR2.out.push_facts hsq hown2 hg2 hat2; have HR3 := Lib.hid hR2; clear hR2 hown2 hg2 hat2; have hs2 := hb2.size; have hsB : w.heap.size ≤ w2.heap.size := (by omega))
            | (at_builtin; refine wpList_append1 rune rfl _ _ rfl w.heap.size _ _ (Own.nil _ _ _ _) rfl x _ rfl (by simp) (by simp) hsB ?_; intro u3 w3 hown3 hg3 hat3; obtain ⟨au, cu, rfl, _, _, _⟩ := hown3.shape; obtain ⟨hR4, ⟨old, hc4⟩, hf4, hb4⟩ := HR3.out.grow_facts (n := vs.length) (x := x) (by simp) (by simp) hsB (by simp) (by have e1 : (seqs (xs.take k) ++ [[]]).getD vs.length [] = [] := (by rw [HLEN.out]; simp); rw [e1]; exact hown3) hg3 hat3; have HR5 := Lib.hid hR4; clear hR4))
          go_wp2
          go_roundw
          case rel =>
            refine ⟨k + 1, _, by omega, by go_num, by rw [HFIN.out]; exact HR5.out, hblq.trans (hb2.trans hb4)⟩
          case measure => simp [intOf]; omega
        · have hkb : ((k : Int) == 0) = false := by simp; omega
          have hx0 : cls x = 0 := by
            rcases hnew with h | h
            · obtain ⟨k', rfl⟩ : ∃ k', k = k' + 1 := ⟨k - 1, by omega⟩
              exact absurd h (seqs_take_ne xs k' (by omega))
            · exact h
          have hxb : (cls x == 0) = true := by simp [hx0]
          have HX0 := Lib.hid hx0; clear hx0
          go_wp2_with fail
          refine (class_any _ _).mono ?_
          rintro e w1 ⟨rfl, hb1⟩
          have HRQ := HR.out.keep hb1 rfl
          have hblq : Below w.heap.size w w1 := hbl.trans (hb1.mono hbs)
          have hsq := hblq.size
          clear c1
          have HR2 := Lib.hid HRQ
          have tok1 : True := trivial
          go_wp2_with (first
            | (at_builtin; have _t := tok1; refine wpList_append1V runes rfl _ _ rfl w.heap.size _ _ HRQ.outer rfl (.slice none 0 0) _ rfl rfl (by omega) (by omega) hsq ?_; intro v2 w2 hown2 hg2 hat2; clear tok1 _t; obtain ⟨g2, cap2, rfl, hR2, hc2, hb2, hcap1, hcap2⟩ := HR2.out.push_facts hsq hown2 hg2 hat2; have HR3 := Lib.hid hR2; clear hR2 hown2 hg2 hat2; have hs2 := hb2.size; have hsB : w.heap.size ≤ w2.heap.size := (by omega))
            | (at_builtin; refine wpList_append1 rune rfl _ _ rfl w.heap.size _ _ (Own.nil _ _ _ _) rfl x _ rfl (by simp) (by simp) hsB ?_; intro u3 w3 hown3 hg3 hat3; obtain ⟨au, cu, rfl, _, _, _⟩ := hown3.shape; obtain ⟨hR4, ⟨old, hc4⟩, hf4, hb4⟩ := HR3.out.grow_facts (n := vs.length) (x := x) (by simp) (by simp) hsB (by simp) (by have e1 : (seqs (xs.take k) ++ [[]]).getD vs.length [] = [] := (by rw [HLEN.out]; simp); rw [e1]; exact hown3) hg3 hat3; have HR5 := Lib.hid hR4; clear hR4))
          go_wp2
          go_roundw
          case rel =>
            refine ⟨k + 1, _, by omega, by go_num, by rw [HFIN.out]; exact HR5.out, hblq.trans (hb2.trans hb4)⟩
          case measure => simp [intOf]; omega
      · have hx0 : cls x ≠ 0 := fun h => hnew (.inr h)
        have hkb : ((k : Int) == 0) = false := by
          have : k ≠ 0 := fun h => hnew (.inl (by subst h; rfl))
          simp; omega
        have hxb : (cls x == 0) = false := by simp [hx0]
        have HX0 := Lib.hid hx0; clear hx0
        have hne : seqs (xs.take k) ≠ [] := fun h => hnew (.inl h)
        have hpos : 0 < vs.length := by rw [HLEN.out]; exact List.length_pos_iff.2 hne
        obtain ⟨m, hm⟩ : ∃ m : Nat, IntKind.i64.wrap ((vs.length : Int) - 1) = (m : Int) := ⟨vs.length - 1, by rw [IntWalk.i64_in _ (by omega)]; omega⟩
        have hm1 : vs.length = m + 1 := by rw [IntWalk.i64_in _ (by omega)] at hm; omega
        have hm2 : m < vs.length := by omega
        have hfin : seqs (xs.take (k + 1)) = (seqs (xs.take k)).set m ((seqs (xs.take k)).getD m [] ++ [x]) := by
          rw [HT.out, seqs_snoc]
          unfold seqPush
          rw [if_neg hnew, ← HLEN.out, hm1]
          simp
        have HFIN := Lib.hid hfin; clear hfin hm1 hnew
        have hql : ((seqs (xs.take k)).getD m []).length ≤ 1000000 := by have := seqs_part_length (xs.take k) m; simp at this ⊢; omega
        have i1 : (0 : Int) ≤ (m : Int) := by omega
        have i2 : (m : Int) < (vs.length : Int) := by omega
        obtain ⟨q, hq⟩ : ∃ q, (seqs (xs.take k)).getD m [] = q := ⟨_, rfl⟩
        rw [hq] at hql
        have HQ := Lib.hid hq; clear hq
        go_wp2_with fail
        refine (class_any _ _).mono ?_
        rintro e w1 ⟨rfl, hb1⟩
        have hRQ := HR.out.keep hb1 rfl
        have hblq : Below w.heap.size w w1 := hbl.trans (hb1.mono hbs)
        have hsq := hblq.size
        clear c1
        have hO := hRQ.own m hm2
        rw [HQ.out] at hO
        obtain ⟨au, cu, hu, _, _, _⟩ := hO.shape
        rw [hu] at hO
        have HO := Lib.hid hO; clear hO
        obtain ⟨a2, cap2, hv2, hcl2, hcm2, hsh2⟩ := ownsRow_shapeV hRQ.outer
        subst hv2
        rcases hsh2 with ⟨_, _, hbad⟩ | ⟨g2, rfl, hg2B, hg2l⟩
        · rw [hbad] at hpos; simp at hpos
        have hc2 : w1.cell? ⟨g2, m, none⟩ = some (.slice au q.length cu) := by
          have := World.ownsRow.cellAt hRQ.outer m (by omega)
          rw [this, ← hu]; simp [hm2]
        have HR3 := Lib.hid hRQ; clear hRQ
        have HU := Lib.hid hu; clear hu
        go_wp2_with (at_builtin; refine wpList_append1 rune rfl _ _ rfl w.heap.size _ _ HO.out rfl x _ rfl (by omega) (by omega) hsq ?_; intro u3 w3 hown3 hg3 hat3; obtain ⟨au3, cu3, rfl, _, _, _⟩ := hown3.shape; obtain ⟨hR4, ⟨old, hc4⟩, hf4, hb4⟩ := HR3.out.grow_facts (n := m) (x := x) rfl hm2 hsq HU.out (by rw [HQ.out]; exact hown3) hg3 hat3; have HR5 := Lib.hid hR4; clear hR4)
        go_wp2
        go_roundw
        case rel =>
          have hr5 := HR5.out
          rw [List.length_append] at hr5 hb4
          refine ⟨k + 1, _, by omega, by go_num, by rw [HFIN.out]; exact hr5, hblq.trans hb4⟩
        case measure => simp [intOf]; omega
    · go_wp2
      go_ret2
      have : xs.take k = xs := List.take_of_length_le (by omega)
      rw [this] at hr
      exact ⟨_, vs, rfl, hr, hbl⟩

end Go.Proofs.Ytmipppnioanjeaa
