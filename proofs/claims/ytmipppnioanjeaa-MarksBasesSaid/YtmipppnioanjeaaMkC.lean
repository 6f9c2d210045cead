/-
  Contracts of layer 14's mover: New, Held, Flush, Push.
-/
import Derived.Test.YtmipppnioanjeaaMkB
namespace Go.Proofs.Ytmipppnioanjeaa
open Go.RowKit Pl14

/-- the mover at block b, whose marks that are held are hs, in the slice value hv -/
def MoverAt (w : World) (b : Nat) (hv : Value) : Prop := Blk w b #[.iface 52 (.agg #[]), hv] 58

set_option maxHeartbeats 400000 in
theorem new_any (w : World) :
    Calls Try.prog 21 #[.iface 52 (.agg #[])] w fun e w' =>
      e = .returned (.tuple #[.pointer (some ⟨w.heap.size, 0, none⟩), .int .i64 0]) ∧ MoverAt w' w.heap.size (.slice none 0 0) ∧ Below w.heap.size w w' := by
  go_enter Try.func21, Try.ntmps21
  go_wp2
  go_ret2
  exact ⟨rfl, Blk.new _ _ _, (Below.refl _ _).alloc (Nat.le_refl _) _⟩

set_option maxHeartbeats 400000 in
theorem new_nil (w : World) :
    Calls Try.prog 21 #[.nilIface] w fun e w' => e = .returned (.tuple #[.pointer none, .int .i64 2]) ∧ w = w' := by
  go_enter Try.func21, Try.ntmps21
  go_wp2
  go_ret2
  exact ⟨rfl, rfl⟩

set_option maxHeartbeats 400000 in
theorem held_any (b : Nat) (a : Option Addr) (n cap : Nat) (w : World) (hm : MoverAt w b (.slice a n cap)) :
    Calls Try.prog 23 #[.pointer (some ⟨b, 0, none⟩)] w fun e w' => e = .returned (.int .i64 n) ∧ w = w' := by
  have h1 := hm.cell 1
  simp at h1
  go_enter Try.func23, Try.ntmps23
  go_wp2
  go_ret
  exact ⟨rfl, rfl⟩

set_option maxHeartbeats 400000 in
theorem held_nil (w : World) :
    Calls Try.prog 23 #[.pointer none] w fun e w' => e = .returned (.int .i64 0) ∧ w = w' := by
  go_enter Try.func23, Try.ntmps23
  go_wp2
  go_ret
  exact ⟨rfl, rfl⟩

set_option maxHeartbeats 400000 in
theorem flush_any (b : Nat) (a : Option Addr) (n cap : Nat) (w : World) (hm : MoverAt w b (.slice a n cap)) :
    Calls Try.prog 24 #[.pointer (some ⟨b, 0, none⟩)] w fun e w' => e = .returned (.tuple #[.slice a n cap, .int .i64 n]) ∧
      MoverAt w' b (.slice none 0 0) ∧ Keep (fun j => j = b) w w' := by
  have h1 := hm.cell 1
  have h2 := hm.frozen 1
  simp at h1
  go_enter Try.func24, Try.ntmps24
  go_wp2
  go_ret2
  exact ⟨rfl, hm.set 1 _, Keep.of_setCell _ _ _ _⟩

set_option maxHeartbeats 400000 in
theorem flush_nil (w : World) :
    Calls Try.prog 24 #[.pointer none] w fun e w' => e = .returned (.tuple #[.slice none 0 0, .int .i64 0]) ∧ w = w' := by
  go_enter Try.func24, Try.ntmps24
  go_wp2
  go_ret2
  exact ⟨rfl, rfl⟩

set_option maxHeartbeats 400000 in
theorem push_nil (v : Value) (w : World) :
    Calls Try.prog 22 #[.pointer none, v] w fun e w' => e = .returned (.slice none 0 0) ∧ w = w' := by
  go_enter Try.func22, Try.ntmps22
  go_wp2
  go_ret
  exact ⟨rfl, rfl⟩

/-- what a part of a Push has made of the world -/
structure PushRel (b : Nat) (hv : Value) (hs done : List Int) (w wr : World) (out hv' : Value) : Prop where
  ownO : Own 21 .i32 w.heap.size wr out (pushL hs done).1
  mover : MoverAt wr b hv'
  ownH : Own 21 .i32 0 wr hv' (pushL hs done).2
  ne : hv'.ownBlock ≠ some b
  at_ : ∀ j, hv'.ownBlock = some j → hv.ownBlock = some j ∨ w.heap.size ≤ j
  apart : ∀ j, hv'.ownBlock = some j → out.ownBlock ≠ some j
  keep : Keep (fun j => j = b ∨ hv.ownBlock = some j) w wr

theorem pushL_sizes (hs done : List Int) : (pushL hs done).1.length ≤ hs.length + done.length ∧ (pushL hs done).2.length ≤ hs.length + done.length := by
  have := pushL_len done hs; omega

theorem PushRel.mark {b : Nat} {hv : Value} {hs done : List Int} {w wr w' w1 : World} {out hv' v'' : Value} {x : Int} {o : Obj} (hr : PushRel b hv hs done w wr out hv') (hbw : b < w.heap.size)
    (hb : Below wr.heap.size wr w') (hown : Own 21 .i32 0 w1 v'' ((pushL hs done).2 ++ [x])) (hgrow : (w'.alloc o).grownBy w1 hv'.ownBlock)
    (hat : v''.ownBlock = hv'.ownBlock ∨ v''.ownBlock = some (w'.heap.size + 1)) (hm1 : MoverAt w1 b hv') (hx : cls x ≠ 0) :
    PushRel b hv hs (done ++ [x]) w (w1.setCell ⟨b, 1, none⟩ v'') out v'' := by
  have hsz := hb.size
  have hsw := hr.keep.size
  have K0 : Keep (fun j => hv'.ownBlock = some j) wr w1 :=
    ((Keep.of_below (S := fun j => hv'.ownBlock = some j) hb rfl).trans (Keep.of_alloc (fun j => hv'.ownBlock = some j) _ o) (fun _ _ h => h)).trans (Keep.of_grown hgrow) (fun _ _ h => h)
  have K1 : Keep (fun j => hv'.ownBlock = some j ∨ j = b) wr (w1.setCell ⟨b, 1, none⟩ v'') :=
    (K0.weaken fun _ _ h => Or.inl h).trans (Keep.of_setCell _ _ _ _) (fun _ _ h => Or.inr h)
  have hnb : v''.ownBlock ≠ some b := by
    rcases hat with h | h
    · rw [h]; exact hr.ne
    · rw [h]; have := hr.mover.lt; intro e; simp at e; omega
  refine ⟨?_, hm1.set 1 _, ?_, hnb, ?_, ?_, ?_⟩
  · rw [pushL_mark _ _ _ hx]
    refine hr.ownO.keep K1 ?_
    intro j hj h
    rcases h with h | h
    · exact hr.apart j h hj
    · subst h; have := (hr.ownO.lt j hj).1; omega
  · rw [pushL_mark _ _ _ hx]
    exact hown.keep (Keep.of_setCell w1 b 1 v'') (fun j hj h => hnb (by rw [hj, h]))
  · intro j hj
    rcases hat with h | h
    · exact hr.at_ j (h ▸ hj)
    · right; rw [h] at hj; simp at hj; omega
  · intro j hj ho
    rcases hat with h | h
    · exact hr.apart j (h ▸ hj) ho
    · rw [h] at hj; simp at hj; have := (hr.ownO.lt j ho).2; omega
  · refine hr.keep.trans K1 ?_
    intro j hj h
    rcases h with h | h
    · rcases hr.at_ j h with h' | h'
      · exact .inr h'
      · omega
    · exact .inl h

theorem PushRel.base {b : Nat} {hv : Value} {hs done : List Int} {w wr w' w1 w2 : World} {out hv' o1 o2 : Value} {x : Int} {o : Obj} (hr : PushRel b hv hs done w wr out hv') (hbw : b < w.heap.size)
    (hb : Below wr.heap.size wr w') (hg1 : (w'.alloc o).grownBy w1 out.ownBlock) (hat1 : o1.ownBlock = out.ownBlock ∨ o1.ownBlock = some (w'.heap.size + 1))
    (hg2 : w1.grownBy w2 o1.ownBlock) (hown : Own 21 .i32 w.heap.size w2 o2 (((pushL hs done).1 ++ [x]) ++ (pushL hs done).2)) (hm2 : MoverAt w2 b hv') (hx : cls x = 0) :
    PushRel b hv hs (done ++ [x]) w (w2.setCell ⟨b, 1, none⟩ (.slice none 0 0)) o2 (.slice none 0 0) := by
  have hsz := hb.size
  have hsw := hr.keep.size
  have K1 : Keep (fun j => out.ownBlock = some j) wr w1 :=
    ((Keep.of_below (S := fun j => out.ownBlock = some j) hb rfl).trans (Keep.of_alloc (fun j => out.ownBlock = some j) _ o) (fun _ _ h => h)).trans (Keep.of_grown hg1) (fun _ _ h => h)
  have K2 : Keep (fun j => out.ownBlock = some j) wr w2 := K1.trans (Keep.of_grown hg2) fun j hj h => by
    rcases hat1 with e | e
    · rw [← e]; exact h
    · rw [e] at h; simp at h; omega
  have K3 : Keep (fun j => out.ownBlock = some j ∨ j = b) wr (w2.setCell ⟨b, 1, none⟩ (.slice none 0 0)) :=
    (K2.weaken fun _ _ h => Or.inl h).trans (Keep.of_setCell _ _ _ _) (fun _ _ h => Or.inr h)
  refine ⟨?_, hm2.set 1 _, ?_, by simp [Value.ownBlock], ?_, ?_, ?_⟩
  · rw [pushL_base _ _ _ hx]
    have e : (pushL hs done).1 ++ x :: (pushL hs done).2 = ((pushL hs done).1 ++ [x]) ++ (pushL hs done).2 := by simp
    show Own _ _ _ _ _ ((pushL hs done).1 ++ x :: (pushL hs done).2)
    rw [e]
    refine hown.keep (Keep.of_setCell w2 b 1 _) ?_
    intro j hj h; subst h; have := (hown.lt j hj).1; omega
  · rw [pushL_base _ _ _ hx]; exact Own.nil _ _ _ _
  · intro j hj; simp [Value.ownBlock] at hj
  · intro j hj; simp [Value.ownBlock] at hj
  · refine hr.keep.trans K3 ?_
    intro j hj h
    rcases h with h | h
    · have := (hr.ownO.lt j h).1; omega
    · exact .inl h

set_option maxHeartbeats 1600000 in
theorem push_any (b : Nat) (hv vl : Value) (hs xs : List Int) (w : World) (hm : MoverAt w b hv) (ho : Own 21 .i32 0 w hv hs) (hne : hv.ownBlock ≠ some b)
    (hl : Rd .i32 w vl xs) (hlb : xs ≠ [] → ∀ j, vl.ownBlock = some j → j ≠ b ∧ hv.ownBlock ≠ some j) (hsz : hs.length + xs.length ≤ 1000000) :
    Calls Try.prog 22 #[.pointer (some ⟨b, 0, none⟩), vl] w fun e w' => ∃ out hv', e = .returned out ∧ PushRel b hv hs xs w w' out hv' := by
  obtain ⟨a, ca, rfl, ha1, ha2, ha0, ha3⟩ := hl
  have hna := nilAhead_small
  have hme := method_small
  have hbw := hm.lt
  have HLB := Lib.hid hlb; clear hlb
  have HNE := Lib.hid hne; clear hne
  have HM := Lib.hid hm; clear hm
  have HO := Lib.hid ho; clear ho
  have HA := Lib.hid ha3; clear ha3 ha0
  go_enter Try.func22, Try.ntmps22
  go_wp2
  go_loopw [5, 12] (fun v i wr => ∃ (k : Nat) (hv' : Value), k ≤ xs.length ∧ i = .int .i64 k ∧ PushRel b hv hs (xs.take k) w wr v hv') (fun _ i _ => xs.length - (intOf i).toNat)
  case atStart =>
    exact ⟨0, hv, Nat.zero_le _, rfl, Own.nil _ _ _ _, HM.out, HO.out, HNE.out, fun j h => .inl h, fun j _ h => by simp [Value.ownBlock] at h, Keep.refl _ _⟩
  case round =>
    obtain ⟨k, hv', hk, rfl, hr⟩ := hrel
    by_cases hlt : k < xs.length
    · rcases HA.out with rfl | ⟨b1, o1, rfl, hc1⟩
      · simp at hlt
      have hb1 := HLB.out (by intro h; subst h; simp at hlt) b1 rfl
      have c1 : wr.cell? ⟨b1, o1 + k, none⟩ = some (.int .i32 (xs.getD k 0)) := by
        rw [World.cell?_of_block (w := w) (a := ⟨b1, o1 + k, none⟩) (hr.keep.block b1 (cell_lt (hc1 k hlt)) (fun h => h.elim hb1.1 hb1.2))]; exact hc1 k hlt
      clear hc1 HA HLB hb1
      obtain ⟨x, hx⟩ : ∃ x, xs.getD k 0 = x := ⟨_, rfl⟩
      rw [hx] at c1
      have HT := Lib.hid (take_snoc xs k hlt)
      rw [hx] at HT
      clear hx
      have m0 := hr.mover.cell 0
      simp at m0
      obtain ⟨hs1, hs2⟩ := pushL_sizes hs (xs.take k)
      have hsum := pushL_len (xs.take k) hs
      have hsum := Nat.le_of_eq hsum
      have hbr := hr.mover.lt
      by_cases hx0 : cls x = 0
      · have hxb : (cls x != 0) = false := by simp [hx0]
        have HX0 := Lib.hid hx0; clear hx0
        go_wp2_with fail
        refine (class_any _ _).mono ?_
        rintro e w' ⟨rfl, hb⟩
        have hm' : MoverAt w' b hv' := hr.mover.below hb hbr
        have m1 := hm'.cell 1
        simp at m1
        have hO := hr.ownO.kept rfl hb
        have hH := hr.ownH.kept rfl hb
        have hbs := hb.size
        have hks := hr.keep.size
        have hapart := Lib.hid hr.apart
        have tok1 : True := trivial
        go_wp2_with (first
          | (at_builtin; have _t := tok1; refine wpList_append1 rune rfl _ _ rfl w.heap.size _ _ hO rfl x _ rfl (by simp at hs1; omega) (by simp at hs1; omega) (by omega) ?_; intro o1 w1 hown3 hg1 hat1; clear tok1 _t; have hm1 : MoverAt w1 b hv' := (hm'.below ((Below.refl _ _).alloc (Nat.le_refl _) _) hm'.lt).keep (Keep.of_grown hg1) (fun h => by have := (hr.ownO.lt b h).1; omega); have m1' := hm1.cell 1; simp at m1'; have hH1 := ((hH.kept rfl ((Below.refl _ _).alloc (Nat.le_refl _) _)).keep (Keep.of_grown hg1) (fun j hj h => hapart.out j hj h)); have hgs := hg1.size; simp at hgs)
          | (at_builtin; refine wpList_appendS rune rfl _ _ rfl w.heap.size _ _ hown3 rfl _ _ hH1.rd rfl (by simp at hs1 hs2 hsum ⊢; omega) (by simp at hs1 hs2 hsum ⊢; omega) (by omega) ?_; intro o2 w2 hown4 hg2 _; have hm2 : MoverAt w2 b hv' := hm1.keep (Keep.of_grown hg2) (fun h => by have := (hown3.lt b h).1; omega); have m2' := hm2.cell 1; simp at m2'; have f2 := hm2.frozen 1))
        go_wp2
        go_roundw
        case rel => exact ⟨k + 1, _, by omega, by go_num, by rw [HT.out]; exact hr.base hbw hb hg1 hat1 hg2 hown4 hm2 HX0.out⟩
        case measure => simp [intOf]; omega
      · have hxb : (cls x != 0) = true := by simp [hx0]
        have HX0 := Lib.hid hx0; clear hx0
        go_wp2_with fail
        refine (class_any _ _).mono ?_
        rintro e w' ⟨rfl, hb⟩
        have hm' : MoverAt w' b hv' := hr.mover.below hb hbr
        have m1 := hm'.cell 1
        simp at m1
        have hO := hr.ownH.kept rfl hb
        go_wp2_with (at_builtin; refine wpList_append1 rune rfl _ _ rfl 0 _ _ hO rfl x _ rfl (by simp at hs2; omega) (by simp at hs2; omega) (Nat.zero_le _) ?_; intro v' w1 hown3 hgrow hat; obtain ⟨a', cap', rfl, _, _, hsh⟩ := hown3.shape; have hm1 : MoverAt w1 b hv' := (hm'.below ((Below.refl _ _).alloc (Nat.le_refl _) _) hm'.lt).keep (Keep.of_grown hgrow) hr.ne; have m1' := hm1.cell 1; simp at m1'; have f1 := hm1.frozen 1)
        go_wp2
        go_roundw
        case rel => exact ⟨k + 1, _, by omega, by go_num, by rw [HT.out]; have q := hr.mark hbw hb hown3 hgrow hat hm1 HX0.out; rw [List.length_append] at q; exact q⟩
        case measure => simp [intOf]; omega
    · go_wp2
      go_ret
      have : xs.take k = xs := List.take_of_length_le (by omega)
      rw [this] at hr
      exact ⟨_, _, rfl, hr⟩

end Go.Proofs.Ytmipppnioanjeaa
