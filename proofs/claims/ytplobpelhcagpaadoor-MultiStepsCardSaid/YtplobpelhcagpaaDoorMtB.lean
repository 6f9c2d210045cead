/-
  Multi: the laws' own helpers: Few, whole, Decoded.
-/
import Derived.Test.YtplobpelhcagpaaDoorMtA
namespace Go.Proofs.YtplobpelhcagpaaDoor
open Go.RowKit Go.Shelf Pl14

theorem RdM.at {w : World} {a : Option Addr} {n cap : Nat} {rs : List MRow} (h : RdM w (.slice a n cap) rs) {i : Nat} (hi : i < rs.length) : ∃ b o, a = some ⟨b, o, none⟩ ∧
    w.cell? ⟨b, o + i * 3, none⟩ = some (.string (rs.getD i mr0).1) ∧ w.cell? ⟨b, o + i * 3 + 1, none⟩ = some (.string (rs.getD i mr0).2.1) ∧ w.cell? ⟨b, o + i * 3 + 2, none⟩ = some (.int .i64 (rs.getD i mr0).2.2) := by
  have h' := h
  obtain ⟨a', cap', hv, h1, h2, h0, h3⟩ := h
  cases hv
  rcases h3 with h3 | ⟨b, o, rfl, hc⟩
  · rw [h3] at hi; simp at hi
  · exact ⟨b, o, rfl, h'.cells hi⟩
theorem RdS.at {w : World} {a : Option Addr} {n cap : Nat} {ss : List ByteArray} (h : RdS w (.slice a n cap) ss) {i : Nat} (hi : i < ss.length) : ∃ b o, a = some ⟨b, o, none⟩ ∧
    w.cell? ⟨b, o + i, none⟩ = some (.string (ss.getD i ByteArray.empty)) := by
  obtain ⟨a', cap', hv, h1, h2, h0, h3⟩ := h
  cases hv
  rcases h3 with h3 | ⟨b, o, rfl, hc⟩
  · rw [h3] at hi; simp at hi
  · exact ⟨b, o, rfl, hc i hi⟩
theorem mem_take_succ {α : Type} {l : List α} {i : Nat} {d : α} (hi : i < l.length) {x : α} (h : x ∈ l.take (i + 1)) : x ∈ l.take i ∨ x = l.getD i d := by
  rw [List.take_succ_eq_append_getElem hi] at h
  rcases List.mem_append.1 h with h | h
  · exact .inl h
  · refine .inr ?_
    simp at h
    rw [h]; simp [List.getD_eq_getElem?_getD, hi]

def FewR (e : Ending) (rs : List MRow) : Prop := ∃ b : Bool, e = .returned (.bool b) ∧ (b = true → FewOk rs)
theorem FewR.no {rs : List MRow} : FewR (.returned (.bool false)) rs := ⟨false, rfl, fun h => by cases h⟩

set_option maxRecDepth 100000 in
set_option maxHeartbeats 4000000 in
theorem few_any (vl : Value) (rs : List MRow) (w : World) (hl : RdM w vl rs) : Calls Tryd.prog 10 #[vl] w fun e w' => FewR e rs ∧ Below w.heap.size w w' := by
  have HL := Lib.hid hl
  obtain ⟨sa, scap, rfl, hs1, hs2, -, -⟩ := hl
  obtain ⟨N, hN⟩ : ∃ n, rs.length = n := ⟨_, rfl⟩
  rw [hN] at hs1 HL ⊢
  have HN := Lib.hid hN; clear hN
  go_enter Tryd.func10, Tryd.ntmps10
  go_wp2
  go_loopw [3] (fun s3 wr => ∃ i : Nat, s3 = .int .i64 i ∧ i ≤ N ∧ (∀ r ∈ rs.take i, r.1.size ≤ 200 ∧ r.2.1.size ≤ 200) ∧ Below w.heap.size w wr) (fun s3 _ => N - (intOf s3).toNat)
  case atStart => exact ⟨0, rfl, Nat.zero_le _, by simp, Below.refl _ _⟩
  case round =>
    obtain ⟨i, rfl, hi, hsm, hB⟩ := hrel
    have HSM := Lib.hid hsm; clear hsm
    have HB3 := Lib.hid hB; clear hB
    by_cases hlt : i < N
    · have hir : i < rs.length := by rw [HN.out]; exact hlt
      obtain ⟨b1, o1, rfl, c0, c1, -⟩ := (HL.out.mono HB3.out rfl).at hir
      obtain ⟨r, hr⟩ : ∃ r, rs.getD i mr0 = r := ⟨_, rfl⟩
      rw [hr] at c0 c1
      have HR := Lib.hid hr; clear hr
      have HIR := Lib.hid hir; clear hir
      by_cases h1 : 200 < r.1.size
      · go_wp2
        go_ret
        exact ⟨.no, HB3.out⟩
      · by_cases h2 : 200 < r.2.1.size
        · go_wp2
          go_ret
          exact ⟨.no, HB3.out⟩
        · obtain ⟨q, hq⟩ : ∃ q : Nat, i + 1 = q := ⟨_, rfl⟩
          have HQ := Lib.hid hq; clear hq
          go_wp2
          go_roundw
          case rel =>
            refine ⟨q, by rw [← HQ.out]; go_num, by have := HQ.out; omega, fun x hx => ?_, HB3.out⟩
            rw [← HQ.out] at hx
            rcases mem_take_succ (d := mr0) HIR.out hx with hx | rfl
            · exact HSM.out x hx
            · rw [HR.out]; exact ⟨by omega, by omega⟩
          case measure => have := HQ.out; simp [intOf]; omega
    · have hiN : i = N := by omega
      have HF := Lib.hid (show ∀ r ∈ rs, r.1.size ≤ 200 ∧ r.2.1.size ≤ 200 from fun r hr => HSM.out r (by rw [hiN, ← HN.out, List.take_length]; exact hr))
      by_cases h40 : 40 < N
      · go_wp2
        go_ret
        exact ⟨⟨_, rfl, fun h => ⟨by simp at h; have := HN.out; omega, HF.out⟩⟩, HB3.out⟩
      · go_wp2
        go_ret
        exact ⟨⟨_, rfl, fun h => ⟨by have := HN.out; omega, HF.out⟩⟩, HB3.out⟩

def PartsOk (parts : List ByteArray) : Prop := parts.length ≤ 20 ∧ ∀ p ∈ parts, p.size ≤ 100
def WholeR (e : Ending) (parts : List ByteArray) : Prop := ∃ (s : ByteArray) (ok : Bool), e = .returned (.tuple #[.string s, .bool ok]) ∧ (ok = true → s.data.toList = catB parts ∧ PartsOk parts)
theorem WholeR.no {parts : List ByteArray} {s : ByteArray} : WholeR (.returned (.tuple #[.string s, .bool false])) parts := ⟨s, false, rfl, fun h => by cases h⟩
theorem catB_take (parts : List ByteArray) (i : Nat) (h : i < parts.length) : catB (parts.take (i + 1)) = catB (parts.take i) ++ (parts.getD i ByteArray.empty).data.toList := by
  rw [List.take_succ_eq_append_getElem h]
  have e : parts.getD i ByteArray.empty = parts[i] := by simp [List.getD_eq_getElem?_getD, h]
  rw [e]
  unfold catB
  rw [List.map_append, List.flatten_append]
  congr 1
  simp

set_option maxRecDepth 100000 in
set_option maxHeartbeats 4000000 in
theorem whole_any (vp : Value) (parts : List ByteArray) (w : World) (hS : RdS w vp parts) (hn : parts.length ≤ 90000000000000000) : Calls Tryd.prog 9 #[vp] w fun e w' => WholeR e parts ∧ Below w.heap.size w w' := by
  have HL := Lib.hid hS
  obtain ⟨sa, scap, rfl, hs1, hs2, -, -⟩ := hS
  obtain ⟨N, hN⟩ : ∃ n, parts.length = n := ⟨_, rfl⟩
  rw [hN] at hs1 HL hn ⊢
  have HN := Lib.hid hN; clear hN
  go_enter Tryd.func9, Tryd.ntmps9
  go_wp2
  go_loopw [4, 5] (fun s4 s5 wr => ∃ (i : Nat) (s : ByteArray), s4 = .string s ∧ s5 = .int .i64 i ∧ i ≤ N ∧ s.size ≤ 100 * i ∧ (s.data.toList = catB (parts.take i) ∧ ∀ p ∈ parts.take i, p.size ≤ 100) ∧ Below w.heap.size w wr) (fun _ s5 _ => N - (intOf s5).toNat)
  case atStart => exact ⟨0, _, rfl, rfl, Nat.zero_le _, Nat.le_refl _, ⟨rfl, by simp⟩, Below.refl _ _⟩
  case round =>
    obtain ⟨i, s, rfl, rfl, hi, hsz, hsm, hB⟩ := hrel
    have HSM := Lib.hid hsm; clear hsm
    have HB3 := Lib.hid hB; clear hB
    by_cases hlt : i < N
    · have hir : i < parts.length := by rw [HN.out]; exact hlt
      obtain ⟨b1, o1, rfl, c0⟩ := (HL.out.mono HB3.out rfl).at hir
      obtain ⟨r, hr⟩ : ∃ r, parts.getD i ByteArray.empty = r := ⟨_, rfl⟩
      rw [hr] at c0
      have HR := Lib.hid hr; clear hr
      have HIR := Lib.hid hir; clear hir
      by_cases h1 : 100 < r.size
      · go_wp2
        go_ret2
        exact ⟨.no, HB3.out⟩
      · obtain ⟨q, hq⟩ : ∃ q : Nat, i + 1 = q := ⟨_, rfl⟩
        have HQ := Lib.hid hq; clear hq
        have hcat : ¬ 9223372036854775807 < s.size + r.size := by omega
        go_wp2
        go_roundw
        case rel =>
          refine ⟨q, _, rfl, by rw [← HQ.out]; go_num, by have := HQ.out; omega, by rw [ByteArray.size_append, ← HQ.out]; omega, ⟨?_, fun x hx => ?_⟩, HB3.out⟩
          · rw [← HQ.out, catB_take _ _ HIR.out, HR.out, ← HSM.out.1]; simp
          rw [← HQ.out] at hx
          rcases mem_take_succ (d := ByteArray.empty) HIR.out hx with hx | rfl
          · exact HSM.out.2 x hx
          · rw [HR.out]; omega
        case measure => have := HQ.out; simp [intOf]; omega
    · have hiN : i = N := by omega
      have HF := Lib.hid (show s.data.toList = catB parts ∧ ∀ p ∈ parts, p.size ≤ 100 from by have := HSM.out; rw [hiN, ← HN.out, List.take_length] at this; exact this)
      by_cases h40 : 20 < N
      · go_wp2
        go_ret2
        exact ⟨⟨_, _, rfl, fun h => ⟨HF.out.1, by simp at h; have := HN.out; omega, HF.out.2⟩⟩, HB3.out⟩
      · go_wp2
        go_ret2
        exact ⟨⟨_, _, rfl, fun h => ⟨HF.out.1, by have := HN.out; omega, HF.out.2⟩⟩, HB3.out⟩

def DecodedR (e : Ending) (t : Bytes) : Prop := ∃ u : ByteArray, e = .returned (.tuple #[.string u, .bool true]) ∧ u.data.toList = t
set_option maxRecDepth 100000 in
set_option maxHeartbeats 8000000 in
theorem decoded_any (cb : Nat) (ps : List CT) (s : ByteArray) (t : Bytes) (w : World) (hC : ChOk w cb ps) (hs : s.size ≤ 1000) (hps : textsLe ps) (f0 : Nat) (hd : decO ps f0 s.data.toList = some t) :
    Calls Tryd.prog 18 #[.pointer (some ⟨cb, 0, none⟩), .string s] w fun e w' => DecodedR e t ∧ Below w.heap.size w w' := by
  have HC := Lib.hid hC; clear hC
  have HD := Lib.hid hd; clear hd
  obtain ⟨N, hN⟩ : ∃ n, s.size = n := ⟨_, rfl⟩
  have HN := Lib.hid hN
  rw [hN] at hs
  go_enter Tryd.func18, Tryd.ntmps18
  go_wp2
  go_loopw [1, 6] (fun s1 s6 wr => ∃ (f : Nat) (r o : ByteArray) (u : Bytes), s1 = .string r ∧ s6 = .string o ∧ r.size ≤ N ∧ o.size + 300000 * r.size ≤ 300000 * N ∧ (decO ps f r.data.toList = some u ∧ o.data.toList ++ u = t) ∧ Below w.heap.size w wr) (fun s1 _ _ => match s1 with | .string r => r.size | _ => 0)
  case atStart => exact ⟨_, _, _, _, rfl, rfl, by omega, by show 0 + _ ≤ _; omega, ⟨HD.out, rfl⟩, Below.refl _ _⟩
  case round =>
    obtain ⟨f, r, o, u, rfl, rfl, hr, ho, hu, hB⟩ := hrel
    have HB3 := Lib.hid hB; clear hB
    have HU := Lib.hid hu; clear hu
    have HC3 := Lib.hid (HC.out.below HB3.out rfl)
    by_cases h0 : r.data.toList = []
    · have e0 : r.toList.isEmpty = true := by rw [ByteArray.toList_eq, h0]; rfl
      have HT := Lib.hid (show o.data.toList = t from by
        have := HU.out
        rw [h0] at this
        have hu : u = [] := by have := this.1; cases f <;> simp [decO] at this <;> exact this
        rw [hu] at this
        simpa using this.2)
      clear h0
      go_wp2
      go_ret2
      exact ⟨⟨_, rfl, HT.out⟩, HB3.out⟩
    · have e0 : r.toList.isEmpty = false := by rw [ByteArray.toList_eq]; cases h : r.data.toList with | nil => exact absurd h h0 | cons _ _ => rfl
      have H0 := Lib.hid h0; clear h0
      go_wp2_with fail
      refine (next_any cb ps r wr HC3.out (by omega)).mono ?_
      rintro e W4 ⟨n, t4, er, rfl, hn, hb4⟩
      obtain ⟨f, rfl, he, u2, hu2, hu3⟩ : ∃ f', f = f' + 1 ∧ er = 0 ∧ ∃ u2, decO ps f' (r.data.toList.drop n) = some u2 ∧ u = t4 ++ u2 := by
        have hu := HU.out.1
        have h0 := H0.out
        cases f with
        | zero => simp [decO, h0] at hu
        | succ f =>
          rw [decO, if_neg h0, hn] at hu
          simp only at hu
          by_cases he : er = 0
          · rw [if_pos he] at hu
            obtain ⟨u2, h1, h2⟩ := Option.map_eq_some_iff.1 hu
            exact ⟨f, rfl, he, u2, h1, h2.symm⟩
          · rw [if_neg he] at hu; cases hu
      subst he
      obtain ⟨h1, h2, h3⟩ : 0 < n ∧ n ≤ r.size ∧ t4.length ≤ 300000 := by
        rcases nextP_cases ps _ hn with ⟨-, a, b, c⟩ | ⟨h, _⟩ | ⟨h, _⟩
        · refine ⟨a, by rw [← size_toList] at b; exact b, ?_⟩
          obtain ⟨p, hp, _, rfl⟩ := lookT_mem c
          rw [← size_toList]; exact hps p hp
        · simp at h
        · simp at h
      have HB4 := Lib.hid (HB3.out.trans (hb4.mono HB3.out.size))
      have HU2 := Lib.hid hu2
      have HUT := Lib.hid (show o.data.toList ++ (t4 ++ u2) = t from by rw [← hu3]; exact HU.out.2)
      have hts : (⟨t4.toArray⟩ : ByteArray).size = t4.length := size_mk t4
      have HTS := Lib.hid hts; clear hts
      have hcat : ¬ 9223372036854775807 < o.size + t4.length := by omega
      clear hn hb4 hu2 hu3 HU HB3 HC3
      go_wp2
      go_roundw
      case rel =>
        refine ⟨f, _, _, u2, rfl, rfl, ?_, ?_, ⟨?_, ?_⟩, HB4.out⟩
        · rw [size_toList, extract_drop, List.length_drop, ← size_toList]; omega
        · rw [ByteArray.size_append, HTS.out, size_toList (r.extract _ _), extract_drop, List.length_drop, ← size_toList]; omega
        · rw [extract_drop]; exact HU2.out
        · simpa using HUT.out
      case measure =>
        show (r.extract _ _).size < r.size
        rw [size_toList (r.extract _ _), extract_drop, List.length_drop, ← size_toList]; omega

end Go.Proofs.YtplobpelhcagpaaDoor
