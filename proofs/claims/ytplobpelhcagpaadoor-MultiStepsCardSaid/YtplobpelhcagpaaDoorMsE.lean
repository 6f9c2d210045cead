/-
  Multi: the small database's NFD.
-/
import Derived.Test.YtplobpelhcagpaaDoorMsD
import Derived.Test.YtplobpelhcagpaaDoorMuV
namespace Go.Proofs.YtplobpelhcagpaaDoor
open Go.RowKit Go.Shelf Pl14

def oneL (r : Int) : List Int :=
  if r = 196 then [65, 776] else if r = 228 then [97, 776] else if r = 225 then [97, 769] else if r = 7841 then [97, 803] else if r = 7853 then [97, 803, 770]
  else if r = 197 ∨ r = 8491 then [65, 778] else if r = 836 then [776, 769] else [r]
theorem oneL_len (r : Int) : (oneL r).length ≤ 3 := by unfold oneL; (repeat' split) <;> simp
theorem oneL_rng {r : Int} (h : -2147483648 ≤ r ∧ r ≤ 2147483647) : ∀ x ∈ oneL r, -2147483648 ≤ x ∧ x ≤ 2147483647 := by
  intro x hx
  unfold oneL at hx
  (repeat' split at hx) <;> simp at hx <;> (try rcases hx with hx | hx) <;> (try rcases hx with hx | hx) <;> omega

theorem rd_lit_eq (k : IntKind) (w : World) (cs : Array Value) (T : TypeId) (n : Nat) (xs : List Int) (h : cs.toList = xs.map (Value.int k)) (hn : n = xs.length) (hb : xs.length ≤ 9223372036854775807) :
    Rd k (w.alloc (.cells cs T)) (.slice (some ⟨w.heap.size, 0, none⟩) n n) xs := by
  subst hn
  exact rd_litK k w cs T xs h hb
set_option maxHeartbeats 2000000 in
theorem one_any (r : Int) (w : World) :
    Calls Tryd.prog 97 #[.int .i32 r] w fun e w' => ∃ v, e = .returned v ∧ Rd .i32 w' v (oneL r) ∧ Below w.heap.size w w' := by
  go_enter Tryd.func97, Tryd.ntmps97
  go_wp2
  all_goals
    go_ret
    refine ⟨_, rfl, ?_, (Below.refl _ _).alloc (Nat.le_refl _) _⟩
    simp only [beq_iff_eq, beq_eq_false_iff_ne] at *
    exact rd_lit_eq .i32 w _ _ _ (oneL r) (by simp [oneL, *]) (by simp [oneL, *]) (Nat.le_trans (oneL_len r) (by decide))

/-- what characters are, sorted -/
def nfdL (xs : List Int) : List Int := msort (xs.flatMap oneL)
theorem flat_one_take (xs : List Int) (i : Nat) (h : i < xs.length) : (xs.take (i + 1)).flatMap oneL = (xs.take i).flatMap oneL ++ oneL (xs.getD i 0) := by
  rw [List.take_succ_eq_append_getElem h, List.flatMap_append]
  simp [List.getD_eq_getElem?_getD, h]
theorem flat_one_len (xs : List Int) : (xs.flatMap oneL).length ≤ 3 * xs.length := by
  induction xs with
  | nil => simp
  | cons x xs ih =>
    have := oneL_len x
    show (oneL x ++ xs.flatMap oneL).length ≤ _
    rw [List.length_append, List.length_cons]; omega

set_option maxRecDepth 100000 in
set_option maxHeartbeats 2000000 in
theorem nfd_any (vl : Value) (xs : List Int) (w : World) (hl : Rd .i32 w vl xs) (hsz : xs.length ≤ 300000) :
    Calls Tryd.prog 95 #[.agg #[], vl] w fun e w' => ∃ v, e = .returned v ∧ Own 21 .i32 w.heap.size w' v (nfdL xs) ∧ Below w.heap.size w w' := by
  obtain ⟨a, ca, rfl, ha1, ha2, _, ha3⟩ := hl
  have RU := Lib.hid rune
  go_enter Tryd.func95, Tryd.ntmps95
  go_wp2
  go_loopw [5, 6] (fun s5 s6 wr => ∃ i : Nat, i ≤ xs.length ∧ s6 = .int .i64 i ∧ Own 21 .i32 w.heap.size wr s5 ((xs.take i).flatMap oneL) ∧ Below w.heap.size w wr) (fun _ s6 _ => xs.length - (intOf s6).toNat)
  case atStart => exact ⟨0, Nat.zero_le _, rfl, by simpa using Own.nil _ _ _ _, (Below.refl _ _).alloc (Nat.le_refl _) _⟩
  case round =>
    obtain ⟨i, hi, rfl, hown, hb⟩ := hrel
    obtain ⟨v, hv⟩ : ∃ v, u5 = v := ⟨_, rfl⟩
    rw [hv] at hown ⊢
    clear hv u5
    have hbs := hb.size
    by_cases hlt : i < xs.length
    · rcases ha3 with rfl | ⟨b1, o1, rfl, hc1⟩
      · simp at hlt
      have c1 : wr.cell? ⟨b1, o1 + i, none⟩ = some (.int .i32 (xs.getD i 0)) := by rw [hb.cell (cell_lt (hc1 i hlt))]; exact hc1 i hlt
      clear hc1
      have htake := flat_one_take xs i hlt
      have hpl : ((xs.take i).flatMap oneL).length ≤ 900000 := by have := flat_one_len (xs.take i); rw [List.length_take] at this; omega
      obtain ⟨x, hx⟩ : ∃ x, xs.getD i 0 = x := ⟨_, rfl⟩
      rw [hx] at c1 htake
      clear hx
      obtain ⟨p0, hp0⟩ : ∃ p0, (xs.take i).flatMap oneL = p0 := ⟨_, rfl⟩
      rw [hp0] at hown hpl htake
      have HTK := Lib.hid htake; clear htake hp0
      have i0 : (0 : Int) ≤ (i : Int) := by omega
      have i1 : (i : Int) < (xs.length : Int) := by omega
      have hol := oneL_len x
      go_wp2_with fail
      refine (one_any x wr).mono ?_
      rintro e w1 ⟨vx, rfl, hrx, hb1⟩
      have HO1 := Lib.hid (hown.kept rfl hb1)
      have HR1 := Lib.hid hrx; clear hrx hown
      have hB1 : Below w.heap.size w w1 := hb.trans (hb1.mono hbs)
      have HB1 := Lib.hid hB1; clear hB1
      go_wp2_with (at_builtin; refine wpList_appendS RU.out rfl _ _ rfl w.heap.size _ _ HO1.out rfl _ _ HR1.out rfl (by omega) (by omega) HB1.out.size ?_; intro v' w2 hown' hgr _)
      have hB2 : Below w.heap.size w w2 := below_append' HB1.out HB1.out.size hgr (fun j hj => HO1.out.lt j hj)
      go_roundw
      case rel => exact ⟨i + 1, by omega, by go_num, by rw [HTK.out]; exact hown', hB2⟩
      case measure => simp [intOf]; omega
    · have i1 : ¬ (i : Int) < (xs.length : Int) := by omega
      have hik : i = xs.length := by omega
      rw [hik, List.take_length] at hown
      have HOW := Lib.hid hown; clear hown
      have hfl := flat_one_len xs
      go_wp2_with fail
      refine (refSort_any v _ wr HOW.out.rd (by omega)).mono ?_
      rintro e w1 ⟨vs, rfl, hs, hb1⟩
      go_wp2
      go_ret
      exact ⟨_, rfl, hs.mono (fun j e => by have := (hs.lt j e).1; omega), hb.trans (hb1.mono hbs)⟩

end Go.Proofs.YtplobpelhcagpaaDoor
