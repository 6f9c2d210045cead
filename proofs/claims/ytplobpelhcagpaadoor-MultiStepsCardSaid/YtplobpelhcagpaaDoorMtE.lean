/-
  Multi: the reference's Next and Text; Faults.
-/
import Derived.Test.YtplobpelhcagpaaDoorMtD
import Derived.BigQuiet
import Derived.Deep.QuietTactic
namespace Go.Proofs.YtplobpelhcagpaaDoor
open Go.RowKit Go.Shelf Pl14

theorem str_ne {a b : ByteArray} (h : a ≠ b) : (a.toList == b.toList) = false := by
  rw [beq_eq_false_iff_ne]
  intro e
  rw [ByteArray.toList_eq, ByteArray.toList_eq] at e
  exact h (bytes_eq e)
set_option maxRecDepth 100000 in
theorem begins_any (s h : ByteArray) (w : World) : Calls Tryd.prog 52 #[.string s, .string h] w fun e w' => (e = .returned (.bool true) ∧ h.data.toList <+: s.data.toList ∨ e = .returned (.bool false) ∧ ¬ h.data.toList <+: s.data.toList) ∧ w = w' := by
  have hS := size_toList s
  have hH := size_toList h
  by_cases hle : h.size ≤ s.size
  · have HE := Lib.hid (extract_take s h.size hle)
    by_cases he : s.extract 0 h.size = h
    · have hp : h.data.toList <+: s.data.toList := by
        have := HE.out
        rw [he] at this
        rw [this]; exact List.take_prefix _ _
      have HP := Lib.hid hp; clear hp
      clear hS hH
      go_enter Tryd.func52, Tryd.ntmps52
      go_wp2
      go_ret
      exact ⟨.inl ⟨rfl, HP.out⟩, rfl⟩
    · have hp : ¬ h.data.toList <+: s.data.toList := by
        intro hp
        apply he
        apply bytes_eq
        rw [HE.out, hH]
        exact (List.prefix_iff_eq_take.1 hp).symm
      have HP := Lib.hid hp; clear hp
      have e0 : ((s.extract 0 h.size).toList == h.toList) = false := by
        rw [beq_eq_false_iff_ne]
        intro e
        rw [ByteArray.toList_eq, ByteArray.toList_eq] at e
        exact he (bytes_eq e)
      clear hS hH
      go_enter Tryd.func52, Tryd.ntmps52
      go_wp2
      go_ret
      exact ⟨.inr ⟨rfl, HP.out⟩, rfl⟩
  · have hp : ¬ h.data.toList <+: s.data.toList := by
      intro hp
      have := hp.length_le
      omega
    have HP := Lib.hid hp; clear hp
    clear hS hH
    go_enter Tryd.func52, Tryd.ntmps52
    go_wp2
    go_ret
    exact ⟨.inr ⟨rfl, HP.out⟩, rfl⟩

/-- rows as the reference has them -/
def RdP (w : World) (v : Value) (rs : List MRow) : Prop :=
  ∃ a cap, v = .slice a rs.length cap ∧ rs.length ≤ cap ∧ cap ≤ 9223372036854775807 ∧
    (rs = [] ∨ ∃ b off, a = some ⟨b, off, none⟩ ∧ ∀ j, j < rs.length → w.cell? ⟨b, off + j * 3, none⟩ = some (.string (rs.getD j mr0).1) ∧
      (∃ tv, w.cell? ⟨b, off + j * 3 + 1, none⟩ = some tv ∧ Rd .i32 w tv (runesL (rs.getD j mr0).2.1)) ∧ w.cell? ⟨b, off + j * 3 + 2, none⟩ = some (.int .i64 (rs.getD j mr0).2.2))
theorem RdP.mono {w w' : World} {v : Value} {rs : List MRow} (h : RdP w v rs) {B : Nat} (hb : Below B w w') (hB : B = w.heap.size) : RdP w' v rs := by
  obtain ⟨a, cap, hv, h1, h2, h3⟩ := h
  refine ⟨a, cap, hv, h1, h2, ?_⟩
  rcases h3 with h3 | ⟨b, off, ha, hc⟩
  · exact .inl h3
  · have hm : ∀ o u, w.cell? ⟨b, o, none⟩ = some u → w'.cell? ⟨b, o, none⟩ = some u := fun o u hu => (hb.cell (p := ⟨b, o, none⟩) (by show b < B; rw [hB]; exact cell_lt hu)).trans hu
    refine .inr ⟨b, off, ha, fun j hj => ?_⟩
    obtain ⟨k1, ⟨tv, k2, k3⟩, k4⟩ := hc j hj
    exact ⟨hm _ _ k1, ⟨tv, hm _ _ k2, k3.mono hb hB⟩, hm _ _ k4⟩
theorem RdP.at {w : World} {a : Option Addr} {n cap : Nat} {rs : List MRow} (h : RdP w (.slice a n cap) rs) {i : Nat} (hi : i < rs.length) : ∃ b o, a = some ⟨b, o, none⟩ ∧ ∃ tv,
    w.cell? ⟨b, o + i * 3, none⟩ = some (.string (rs.getD i mr0).1) ∧ w.cell? ⟨b, o + i * 3 + 1, none⟩ = some tv ∧ w.cell? ⟨b, o + i * 3 + 2, none⟩ = some (.int .i64 (rs.getD i mr0).2.2) ∧ Rd .i32 w tv (runesL (rs.getD i mr0).2.1) := by
  obtain ⟨a', cap', hv, h1, h2, h3⟩ := h
  cases hv
  rcases h3 with h3 | ⟨b, o, rfl, hc⟩
  · rw [h3] at hi; simp at hi
  · obtain ⟨k1, ⟨tv, k2, k3⟩, k4⟩ := hc i hi
    exact ⟨b, o, rfl, tv, k1, k2, k4, k3⟩
theorem getD_mem {α : Type} {l : List α} {i : Nat} {d : α} (hi : i < l.length) : l.getD i d ∈ l := by
  rw [List.getD_eq_getElem?_getD, List.getElem?_eq_getElem hi]; simp

/-- what the reference's Next answers -/
def nxI (x : Nat × Bytes × Int) : Int := if x.2.2 = 0 then x.1 else if x.2.2 = 18 then 0 else -1
theorem nextP_none {ps : List CT} {s : Bytes} (h : ∀ p ∈ ps, ¬ p.1.data.toList <+: s) : nextP ps s = (0, [], if headB ps s = true then 18 else 17) := by
  have hn : nextR ps [] s = none := by
    apply nextR_of_none
    intro j h0 hj
    cases hl : lookT ps (s.take j) with
    | none => rfl
    | some t =>
      obtain ⟨p, hp, e, _⟩ := lookT_mem hl
      exact absurd (by rw [e]; exact List.take_prefix _ _) (h p hp)
  unfold nextP
  rw [hn]
theorem headB_iff {ps : List CT} {s : Bytes} (h : ∀ p ∈ ps, ¬ p.1.data.toList <+: s) : headB ps s = true ↔ ∃ p ∈ ps, s <+: p.1.data.toList := by
  constructor
  · intro hb
    obtain ⟨p, hp, j, _, e⟩ := headB_ex hb
    exact ⟨p, hp, by rw [e]; exact List.take_prefix _ _⟩
  · rintro ⟨p, hp, hs⟩
    have e := List.prefix_iff_eq_take.1 hs
    have hle := hs.length_le
    refine headB_of hp (j := s.length) ?_ e
    rcases Nat.lt_or_ge s.length p.1.data.toList.length with h1 | h1
    · exact h1
    · have : s = p.1.data.toList := by rw [e, List.take_of_length_le h1]
      exact absurd (by rw [this]; exact List.prefix_refl _) (h p hp)

set_option maxRecDepth 100000 in
set_option maxHeartbeats 4000000 in
theorem next17_any (vl : Value) (rs : List MRow) (s : ByteArray) (w : World) (hl : RdP w vl rs) (hok : PreFree (psOf rs)) :
    Calls Tryd.prog 38 #[vl, .string s] w fun e w' => e = .returned (.int .i64 (nxI (nextP (psOf rs) s.data.toList))) ∧ w = w' := by
  have HL := Lib.hid hl
  have HOK := Lib.hid hok; clear hok
  obtain ⟨sa, scap, rfl, hs1, hs2, -⟩ := hl
  obtain ⟨N, hN⟩ : ∃ n, rs.length = n := ⟨_, rfl⟩
  rw [hN] at hs1 HL ⊢
  have HN := Lib.hid hN; clear hN
  obtain ⟨X, hX⟩ : ∃ X, nxI (nextP (psOf rs) s.data.toList) = X := ⟨_, rfl⟩
  rw [hX]
  have HX := Lib.hid hX; clear hX
  go_enter Tryd.func38, Tryd.ntmps38
  go_wp2
  go_loopw [5] (fun s5 wr => ∃ i : Nat, s5 = .int .i64 i ∧ i ≤ N ∧ (∀ r ∈ rs.take i, r.2.2 ≠ 1 → ¬ r.1.data.toList <+: s.data.toList) ∧ w = wr) (fun s5 _ => N - (intOf s5).toNat)
  case atStart => exact ⟨0, rfl, Nat.zero_le _, by simp, rfl⟩
  case round =>
    obtain ⟨i, rfl, hi, hsm, rfl⟩ := hrel
    have HSM := Lib.hid hsm; clear hsm
    by_cases hlt : i < N
    · have hir : i < rs.length := by rw [HN.out]; exact hlt
      obtain ⟨b1, o1, rfl, tv, c0, c1, c2, -⟩ := HL.out.at hir
      obtain ⟨r, hr⟩ : ∃ r, rs.getD i mr0 = r := ⟨_, rfl⟩
      rw [hr] at c0 c2
      have HM := Lib.hid (show r ∈ rs from by rw [← hr]; exact getD_mem hir)
      have HR := Lib.hid hr; clear hr
      have HIR := Lib.hid hir; clear hir
      obtain ⟨rc, rt, rf⟩ := r
      simp only at c0 c2
      obtain ⟨q, hq⟩ : ∃ q : Nat, i + 1 = q := ⟨_, rfl⟩
      have HQ := Lib.hid hq; clear hq
      have HGO := Lib.hid (show (rf ≠ 1 → ¬ rc.data.toList <+: s.data.toList) → ∀ x ∈ rs.take q, x.2.2 ≠ 1 → ¬ x.1.data.toList <+: s.data.toList from by
        intro h0 x hx
        rw [← HQ.out] at hx
        rcases mem_take_succ (d := mr0) HIR.out hx with hx | rfl
        · exact HSM.out x hx
        · rw [HR.out]; exact h0)
      by_cases h1 : rf = 1
      · have e1 : (rf != 1) = false := by simp [h1]
        have HG := Lib.hid (HGO.out (fun h => absurd h1 h)); clear HGO h1
        go_wp2
        go_roundw
        case rel => exact ⟨q, by rw [← HQ.out]; go_num, by have := HQ.out; omega, HG.out, (by first | rfl | trivial)⟩
        case measure => have := HQ.out; simp [intOf]; omega
      · have e1 : (rf != 1) = true := by simp [h1]
        have H1 := Lib.hid h1; clear h1
        go_wp2_with fail
        refine (begins_any s rc _).mono ?_
        rintro e w' ⟨(⟨rfl, hp⟩ | ⟨rfl, hp⟩), rfl⟩
        · have HP := Lib.hid hp; clear hp
          go_wp2
          go_ret
          refine ⟨ret_int (a := (rc.size : Int)) (b := X) ?_, rfl⟩
          obtain ⟨q0, hq0⟩ := HP.out
          have hn := HOK.out.next (mem_psOf HM.out H1.out) q0
          rw [hq0] at hn
          rw [← HX.out, hn]
          simp only [nxI, if_true]
          rw [size_toList]
        · have HG := Lib.hid (HGO.out (fun _ => hp)); clear HGO hp
          go_wp2
          go_roundw
          case rel => exact ⟨q, by rw [← HQ.out]; go_num, by have := HQ.out; omega, HG.out, (by first | rfl | trivial)⟩
          case measure => have := HQ.out; simp [intOf]; omega
    · have hiN : i = N := by omega
      have HA := Lib.hid (show ∀ p ∈ psOf rs, ¬ p.1.data.toList <+: s.data.toList from by
        intro p hp
        obtain ⟨r, hr, h1, rfl⟩ := of_mem_psOf hp
        exact HSM.out r (by rw [hiN, ← HN.out, List.take_length]; exact hr) h1)
      have HX2 := Lib.hid (show X = if headB (psOf rs) s.data.toList = true then 0 else -1 from by
        rw [← HX.out, nextP_none HA.out]
        by_cases hb : headB (psOf rs) s.data.toList = true <;> simp [nxI, hb])
      have HHB := Lib.hid (headB_iff HA.out)
      clear HSM HX hiN
      go_wp2
      go_loopw [6] (fun s6 wr => ∃ i : Nat, s6 = .int .i64 i ∧ i ≤ N ∧ (∀ r ∈ rs.take i, r.2.2 ≠ 1 → ¬ s.data.toList <+: r.1.data.toList) ∧ w = wr) (fun s6 _ => N - (intOf s6).toNat)
      case atStart => exact ⟨0, rfl, Nat.zero_le _, by simp, rfl⟩
      case round =>
        obtain ⟨i, rfl, hi, hsm, rfl⟩ := hrel
        have HSM := Lib.hid hsm; clear hsm
        by_cases hlt : i < N
        · have hir : i < rs.length := by rw [HN.out]; exact hlt
          obtain ⟨b1, o1, rfl, tv, c0, c1, c2, -⟩ := HL.out.at hir
          obtain ⟨r, hr⟩ : ∃ r, rs.getD i mr0 = r := ⟨_, rfl⟩
          rw [hr] at c0 c2
          have HM := Lib.hid (show r ∈ rs from by rw [← hr]; exact getD_mem hir)
          have HR := Lib.hid hr; clear hr
          have HIR := Lib.hid hir; clear hir
          obtain ⟨rc, rt, rf⟩ := r
          simp only at c0 c2
          obtain ⟨q, hq⟩ : ∃ q : Nat, i + 1 = q := ⟨_, rfl⟩
          have HQ := Lib.hid hq; clear hq
          have HGO := Lib.hid (show (rf ≠ 1 → ¬ s.data.toList <+: rc.data.toList) → ∀ x ∈ rs.take q, x.2.2 ≠ 1 → ¬ s.data.toList <+: x.1.data.toList from by
            intro h0 x hx
            rw [← HQ.out] at hx
            rcases mem_take_succ (d := mr0) HIR.out hx with hx | rfl
            · exact HSM.out x hx
            · rw [HR.out]; exact h0)
          by_cases h1 : rf = 1
          · have e1 : (rf != 1) = false := by simp [h1]
            have HG := Lib.hid (HGO.out (fun h => absurd h1 h)); clear HGO h1
            go_wp2
            go_roundw
            case rel => exact ⟨q, by rw [← HQ.out]; go_num, by have := HQ.out; omega, HG.out, (by first | rfl | trivial)⟩
            case measure => have := HQ.out; simp [intOf]; omega
          · have e1 : (rf != 1) = true := by simp [h1]
            have H1 := Lib.hid h1; clear h1
            go_wp2_with fail
            refine (begins_any rc s _).mono ?_
            rintro e w' ⟨(⟨rfl, hp⟩ | ⟨rfl, hp⟩), rfl⟩
            · have HP := Lib.hid hp; clear hp
              go_wp2
              go_ret
              have hb := HHB.out.2 ⟨_, mem_psOf HM.out H1.out, HP.out⟩
              exact ⟨ret_int (a := (0 : Int)) (b := X) (by rw [HX2.out, if_pos hb]), rfl⟩
            · have HG := Lib.hid (HGO.out (fun _ => hp)); clear HGO hp
              go_wp2
              go_roundw
              case rel => exact ⟨q, by rw [← HQ.out]; go_num, by have := HQ.out; omega, HG.out, (by first | rfl | trivial)⟩
              case measure => have := HQ.out; simp [intOf]; omega
        · have hiN : i = N := by omega
          have HX3 := Lib.hid (show X = -1 from by
            rw [HX2.out, if_neg]
            intro hb
            obtain ⟨p, hp, hs⟩ := HHB.out.1 hb
            obtain ⟨r, hr, h1, rfl⟩ := of_mem_psOf hp
            exact HSM.out r (by rw [hiN, ← HN.out, List.take_length]; exact hr) h1 hs)
          go_wp2
          go_ret
          exact ⟨ret_int (a := (-1 : Int)) (b := X) HX3.out.symm, rfl⟩

def TextR (rs : List MRow) (s : ByteArray) (e : Ending) (w' : World) : Prop := ∃ tv r, e = .returned (.tuple #[tv, .bool true]) ∧ Rd .i32 w' tv (runesL r.2.1) ∧ r ∈ rs ∧ r.2.2 ≠ 1 ∧ r.1 = s
set_option maxRecDepth 100000 in
set_option maxHeartbeats 4000000 in
theorem text17_any (vl : Value) (rs : List MRow) (s : ByteArray) (w : World) (hl : RdP w vl rs) (hex : ∃ r ∈ rs, r.2.2 ≠ 1 ∧ r.1 = s) :
    Calls Tryd.prog 39 #[vl, .string s] w fun e w' => TextR rs s e w' ∧ w = w' := by
  have HL := Lib.hid hl
  have HEX := Lib.hid hex; clear hex
  obtain ⟨sa, scap, rfl, hs1, hs2, -⟩ := hl
  obtain ⟨N, hN⟩ : ∃ n, rs.length = n := ⟨_, rfl⟩
  rw [hN] at hs1 HL ⊢
  have HN := Lib.hid hN; clear hN
  go_enter Tryd.func39, Tryd.ntmps39
  go_wp2
  go_loopw [6] (fun s6 wr => ∃ i : Nat, s6 = .int .i64 i ∧ i ≤ N ∧ (∀ r ∈ rs.take i, ¬ (r.2.2 ≠ 1 ∧ r.1 = s)) ∧ w = wr) (fun s6 _ => N - (intOf s6).toNat)
  case atStart => exact ⟨0, rfl, Nat.zero_le _, by simp, rfl⟩
  case round =>
    obtain ⟨i, rfl, hi, hsm, rfl⟩ := hrel
    have HSM := Lib.hid hsm; clear hsm
    by_cases hlt : i < N
    · have hir : i < rs.length := by rw [HN.out]; exact hlt
      obtain ⟨b1, o1, rfl, tv, c0, c1, c2, hrd⟩ := HL.out.at hir
      have HRD := Lib.hid hrd; clear hrd
      obtain ⟨r, hr⟩ : ∃ r, rs.getD i mr0 = r := ⟨_, rfl⟩
      rw [hr] at c0 c2 HRD
      have HM := Lib.hid (show r ∈ rs from by rw [← hr]; exact getD_mem hir)
      have HR := Lib.hid hr; clear hr
      have HIR := Lib.hid hir; clear hir
      obtain ⟨rc, rt, rf⟩ := r
      simp only at c0 c2
      obtain ⟨q, hq⟩ : ∃ q : Nat, i + 1 = q := ⟨_, rfl⟩
      have HQ := Lib.hid hq; clear hq
      have HGO := Lib.hid (show ¬ (rf ≠ 1 ∧ rc = s) → ∀ x ∈ rs.take q, ¬ (x.2.2 ≠ 1 ∧ x.1 = s) from by
        intro h0 x hx
        rw [← HQ.out] at hx
        rcases mem_take_succ (d := mr0) HIR.out hx with hx | rfl
        · exact HSM.out x hx
        · rw [HR.out]; exact h0)
      by_cases h1 : rf = 1
      · have e1 : (rf != 1) = false := by simp [h1]
        have HG := Lib.hid (HGO.out (fun h => absurd h1 h.1)); clear HGO h1
        go_wp2
        go_roundw
        case rel => exact ⟨q, by rw [← HQ.out]; go_num, by have := HQ.out; omega, HG.out, (by first | rfl | trivial)⟩
        case measure => have := HQ.out; simp [intOf]; omega
      · have e1 : (rf != 1) = true := by simp [h1]
        have H1 := Lib.hid h1; clear h1
        by_cases h2 : rc = s
        · subst h2
          go_wp2
          go_ret2
          exact ⟨⟨tv, _, rfl, HRD.out, HM.out, H1.out, rfl⟩, rfl⟩
        · have HG := Lib.hid (HGO.out (fun h => h2 h.2)); clear HGO
          have e2 := str_ne h2
          clear h2
          go_wp2
          go_roundw
          case rel => exact ⟨q, by rw [← HQ.out]; go_num, by have := HQ.out; omega, HG.out, (by first | rfl | trivial)⟩
          case measure => have := HQ.out; simp [intOf]; omega
    · have hiN : i = N := by omega
      obtain ⟨r, hr, h1⟩ := HEX.out
      exact absurd h1 (HSM.out r (by rw [hiN, ← HN.out, List.take_length]; exact hr))

/-- faults that a slice holds, read: of type T -/
def RdF (w : World) (v : Value) (fs : List (Int × Int)) : Prop :=
  ∃ a cap, v = .slice a fs.length cap ∧ fs.length ≤ cap ∧ cap ≤ 9223372036854775807 ∧ ∀ j, j < fs.length → ∃ g o, a = some ⟨g, o, none⟩ ∧ w.cell? ⟨g, o + j * 2, none⟩ = some (.int .i64 (fs.getD j (0, 0)).1) ∧ w.cell? ⟨g, o + j * 2 + 1, none⟩ = some (.int .i64 (fs.getD j (0, 0)).2)
theorem rdF_of_row {w : World} {B T : Nat} {v : Value} {fs : List (Int × Int)} (h : w.ownsRow B T 2 v fs.length (fltC fs)) : RdF w v fs := by
  obtain ⟨a, cap, rfl, h1, h2, h3⟩ := ownsRow_shapeN h
  refine ⟨a, cap, rfl, h1, h2, fun j hj => ?_⟩
  rcases h3 with ⟨_, _, h0⟩ | ⟨g, rfl, _⟩
  · omega
  · have hf : ∀ c, c < 2 → (fltC fs)[2 * j + c]? = ([Value.int .i64 (fs[j]).1, .int .i64 (fs[j]).2] : List Value)[c]? := fun c hc => flat_at (fun f : Int × Int => [Value.int .i64 f.1, .int .i64 f.2]) 2 (fun _ => rfl) fs j c hj hc
    have e : fs.getD j (0, 0) = fs[j] := by simp [List.getD_eq_getElem?_getD, hj]
    have ha : ∀ k, (⟨g, 0, none⟩ : Addr).add k = ⟨g, k, none⟩ := fun k => by unfold Addr.add; split <;> simp_all
    refine ⟨g, 0, rfl, ?_, ?_⟩
    · have := World.ownsRow.cells h (g := g) rfl (2 * j + 0) _ (hf 0 (by decide))
      rw [ha] at this; rw [e, show 0 + j * 2 = 2 * j + 0 by omega]; exact this
    · have := World.ownsRow.cells h (g := g) rfl (2 * j + 1) _ (hf 1 (by decide))
      rw [ha] at this; rw [e, show 0 + j * 2 + 1 = 2 * j + 1 by omega]; exact this
theorem RdF.mono {w w' : World} {v : Value} {fs : List (Int × Int)} (h : RdF w v fs) {B : Nat} (hb : Below B w w') (hB : B = w.heap.size) : RdF w' v fs := by
  obtain ⟨a, cap, hv, h1, h2, h3⟩ := h
  refine ⟨a, cap, hv, h1, h2, fun j hj => ?_⟩
  obtain ⟨g, o, ha, k1, k2⟩ := h3 j hj
  have hm : ∀ o u, w.cell? ⟨g, o, none⟩ = some u → w'.cell? ⟨g, o, none⟩ = some u := fun o u hu => (hb.cell (p := ⟨g, o, none⟩) (by show g < B; rw [hB]; exact cell_lt hu)).trans hu
  exact ⟨g, o, ha, hm _ _ k1, hm _ _ k2⟩

set_option maxRecDepth 100000 in
set_option maxHeartbeats 4000000 in
theorem faults_any (va vb : Value) (fs : List (Int × Int)) (w : World) (ha : RdF w va fs) (hb : RdF w vb fs) :
    Calls Tryd.prog 17 #[va, vb] w fun e w' => e = .returned (.bool true) ∧ Below w.heap.size w w' := by
  obtain ⟨aa, acap, rfl, ha1, ha2, ha3⟩ := ha
  obtain ⟨ba, bcap, rfl, hb1, hb2, hb3⟩ := hb
  have HA := Lib.hid ha3; clear ha3
  have HB := Lib.hid hb3; clear hb3
  obtain ⟨N, hN⟩ : ∃ n, fs.length = n := ⟨_, rfl⟩
  rw [hN] at ha1 hb1 HA HB ⊢
  clear hN
  go_enter Tryd.func17, Tryd.ntmps17
  go_wp2
  go_loopw [5] (fun s5 wr => ∃ i : Nat, s5 = .int .i64 i ∧ i ≤ N ∧ Below w.heap.size w wr) (fun s5 _ => N - (intOf s5).toNat)
  case atStart => exact ⟨0, rfl, Nat.zero_le _, Below.refl _ _⟩
  case round =>
    obtain ⟨i, rfl, hi, hbw⟩ := hrel
    have HBW := Lib.hid hbw; clear hbw
    by_cases hlt : i < N
    · obtain ⟨g, o, rfl, c0, c1⟩ := HA.out i hlt
      obtain ⟨g', o', rfl, c0', c1'⟩ := HB.out i hlt
      rw [← HBW.out.cell (p := ⟨g, o + i * 2, none⟩) (cell_lt c0)] at c0
      rw [← HBW.out.cell (p := ⟨g, o + i * 2 + 1, none⟩) (cell_lt c1)] at c1
      rw [← HBW.out.cell (p := ⟨g', o' + i * 2, none⟩) (cell_lt c0')] at c0'
      rw [← HBW.out.cell (p := ⟨g', o' + i * 2 + 1, none⟩) (cell_lt c1')] at c1'
      obtain ⟨f1, hf1⟩ : ∃ q, (fs.getD i (0, 0)).1 = q := ⟨_, rfl⟩
      obtain ⟨f2, hf2⟩ : ∃ q, (fs.getD i (0, 0)).2 = q := ⟨_, rfl⟩
      rw [hf1] at c0 c0'
      rw [hf2] at c1 c1'
      clear hf1 hf2
      obtain ⟨q, hq⟩ : ∃ q : Nat, i + 1 = q := ⟨_, rfl⟩
      have HQ := Lib.hid hq; clear hq
      go_wp2
      go_quiet (fail)
      go_wp2
      go_roundw
      case rel => exact ⟨q, by rw [← HQ.out]; go_num, by have := HQ.out; omega, HBW.out.drewN _⟩
      case measure => have := HQ.out; simp [intOf]; omega
    · have hiN : i = N := by omega
      go_wp2
      go_ret
      exact ⟨rfl, HBW.out⟩

end Go.Proofs.YtplobpelhcagpaaDoor
