/-
  Multi: slices.Equal at characters, cover's wrong and plain.
-/
import Derived.Test.YtplobpelhcagpaaDoorMuP
import Derived.Laws.BytesArg
namespace Go.Proofs.YtplobpelhcagpaaDoor
open Go.RowKit Go.Shelf Pl14

set_option maxHeartbeats 800000 in
theorem equal_any (va vb : Value) (xs ys : List Int) (w : World) (ha : Rd .i32 w va xs) (hb : Rd .i32 w vb ys) :
    Calls Tryd.prog 67 #[va, vb] w fun e w' => e = .returned (.bool (decide (xs = ys))) ∧ Below w.heap.size w w' := by
  obtain ⟨a, ca, rfl, ha1, ha2, _, ha3⟩ := ha
  obtain ⟨b, cb, rfl, hb1, hb2, _, hb3⟩ := hb
  by_cases hl : xs.length = ys.length
  · have HL := Lib.hid hl
    have hne : ((xs.length : Int) != (ys.length : Int)) = false := by simp; omega
    have hle1 : xs.length ≤ ys.length := by omega
    have hle2 : ys.length ≤ xs.length := by omega
    clear hl
    go_enter Tryd.func67, Tryd.ntmps67
    go_wp2
    go_loopw [13] (fun i wr => ∃ k : Nat, k ≤ xs.length ∧ i = .int .i64 k ∧ (∀ j, j < k → xs.getD j 0 = ys.getD j 0) ∧ Below w.heap.size w wr) (fun i _ => xs.length - (intOf i).toNat)
    case atStart => exact ⟨0, Nat.zero_le _, rfl, by intro j hj; omega, Below.refl _ _⟩
    case round =>
      obtain ⟨k, hk, rfl, hsame, hbl⟩ := hrel
      have HS := Lib.hid hsame; clear hsame
      by_cases hlt : k < xs.length
      · rcases ha3 with rfl | ⟨b1, o1, rfl, hc1⟩
        · simp at hlt
        rcases hb3 with rfl | ⟨b2, o2, rfl, hc2⟩
        · simp at hle1; simp [hle1] at hlt
        have c1 : wr.cell? ⟨b1, o1 + k, none⟩ = some (.int .i32 (xs.getD k 0)) := by rw [hbl.cell (cell_lt (hc1 k hlt))]; exact hc1 k hlt
        have c2 : wr.cell? ⟨b2, o2 + k, none⟩ = some (.int .i32 (ys.getD k 0)) := by rw [hbl.cell (cell_lt (hc2 k (by omega)))]; exact hc2 k (by omega)
        have hlt2 : k < ys.length := by omega
        clear hc1 hc2
        obtain ⟨x, hx⟩ : ∃ x, xs.getD k 0 = x := ⟨_, rfl⟩
        obtain ⟨y, hy⟩ : ∃ y, ys.getD k 0 = y := ⟨_, rfl⟩
        rw [hx] at c1; rw [hy] at c2
        have HX := Lib.hid hx; clear hx
        have HY := Lib.hid hy; clear hy
        by_cases hxy : x = y
        · subst hxy
          have hb' : (x != x) = false := by simp
          go_wp2
          go_quiet (fail)
          go_wp2
          go_roundw
          case rel =>
            refine ⟨k + 1, by omega, by go_num, ?_, hbl.drewN _⟩
            intro j hj
            by_cases hjk : j = k
            · subst hjk; rw [HX.out, HY.out]
            · exact HS.out j (by omega)
          case measure => simp [intOf]; omega
        · have hb' : (x != y) = true := by simp [hxy]
          go_wp2
          go_quiet (fail)
          go_wp2
          go_ret
          exact ⟨ret_bool (by simp; intro h; subst h; exact hxy (HX.out.symm.trans HY.out)), hbl.drewN _⟩
      · go_wp2
        go_ret
        refine ⟨ret_bool ?_, hbl⟩
        simp
        apply List.ext_getElem HL.out
        intro j h1 h2
        have := HS.out j (by omega)
        simpa [List.getD_eq_getElem?_getD, h1, h2] using this
  · have hne : ((xs.length : Int) != (ys.length : Int)) = true := by simp; omega
    go_enter Tryd.func67, Tryd.ntmps67
    go_wp2
    go_ret
    exact ⟨ret_bool (by simp; intro h; exact hl (by rw [h])), Below.refl _ _⟩

def wrongE (k : List Int) : Int := if k.length < 1 ∨ 18 < k.length then 11 else if msort k = k then 0 else 10

set_option maxHeartbeats 1600000 in
theorem wrong_any (T : TypeId) (x : Value) (f : FuncId) (x' : Value) (vl : Value) (k : List Int) (w : World) (hc : ClsAt w T x f x') (hl : Rd .i32 w vl k) (hsz : k.length ≤ 1000000) :
    Calls Tryd.prog 58 #[.iface T x, vl] w fun e w' => e = .returned (.int .i64 (wrongE k)) ∧ Below w.heap.size w w' := by
  obtain ⟨a, ca, rfl, ha1, ha2, _⟩ := id hl
  have HC := Lib.hid (sort_any T x f x' _ k w hc hl hsz)
  have HL := Lib.hid hl; clear hl hc
  by_cases h1 : k.length < 1
  · have e1 : (k.length : Int) < 1 := by omega
    have he : wrongE k = 11 := by unfold wrongE; rw [if_pos (.inl h1)]
    rw [he]
    go_enter Tryd.func58, Tryd.ntmps58
    go_wp2
    go_ret
    exact ⟨rfl, Below.refl _ _⟩
  · have e1 : ¬ (k.length : Int) < 1 := by omega
    by_cases h2 : 18 < k.length
    · have e2 : (18 : Int) < (k.length : Int) := by omega
      have he : wrongE k = 11 := by unfold wrongE; rw [if_pos (.inr h2)]
      rw [he]
      go_enter Tryd.func58, Tryd.ntmps58
      go_wp2
      go_ret
      exact ⟨rfl, Below.refl _ _⟩
    · have e2 : ¬ (18 : Int) < (k.length : Int) := by omega
      have H18 := Lib.hid (And.intro h1 h2)
      by_cases h3 : msort k = k
      · have he : wrongE k = 0 := by unfold wrongE; rw [if_neg (by omega), if_pos h3]
        have H3 := Lib.hid h3; clear h3
        rw [he]
        go_enter Tryd.func58, Tryd.ntmps58
        go_wp2_with fail
        refine HC.out.mono ?_
        rintro e w1 ⟨out, rfl, hown, hb1⟩
        go_wp2_with fail
        refine (equal_any _ _ (msort k) k w1 hown.rd (HL.out.mono hb1 rfl)).mono ?_
        rintro e w2 ⟨rfl, hb2⟩
        have hb := hb1.trans (hb2.mono hb1.size)
        rw [decide_eq_true H3.out]
        go_wp2
        go_ret
        exact ⟨rfl, hb⟩
      · have he : wrongE k = 10 := by unfold wrongE; rw [if_neg (by omega), if_neg h3]
        have H3 := Lib.hid h3; clear h3
        rw [he]
        go_enter Tryd.func58, Tryd.ntmps58
        go_wp2_with fail
        refine HC.out.mono ?_
        rintro e w1 ⟨out, rfl, hown, hb1⟩
        go_wp2_with fail
        refine (equal_any _ _ (msort k) k w1 hown.rd (HL.out.mono hb1 rfl)).mono ?_
        rintro e w2 ⟨rfl, hb2⟩
        have hb := hb1.trans (hb2.mono hb1.size)
        rw [decide_eq_false H3.out]
        go_wp2
        go_ret
        exact ⟨rfl, hb⟩

def bytes4 (x : Int) : List Int := [x / 16777216 % 256, x / 65536 % 256, x / 256 % 256, x % 256]
def plainI (k : List Int) : List Int := k.flatMap bytes4
theorem plainI_len (k : List Int) : (plainI k).length = k.length * 4 := by
  induction k with
  | nil => rfl
  | cons x k ih =>
    have e : plainI (x :: k) = bytes4 x ++ plainI k := rfl
    rw [e, List.length_append, ih]; simp [bytes4]; omega
theorem plainI_take (k : List Int) (i : Nat) (h : i < k.length) : plainI (k.take (i + 1)) = plainI (k.take i) ++ bytes4 (k.getD i 0) := by
  rw [List.take_succ_eq_append_getElem h]
  unfold plainI
  rw [List.flatMap_append]
  simp [List.getD_eq_getElem?_getD, h]

theorem byteE : Elem Tryd.prog 87 5 .u8 1 := Elem.mk' Tryd.underlying87 (by kernel_rfl)
theorem rd_litK (k : IntKind) (w : World) (cs : Array Value) (T : TypeId) (xs : List Int) (h : cs.toList = xs.map (Value.int k)) (hn : xs.length ≤ 9223372036854775807) :
    Rd k (w.alloc (.cells cs T)) (.slice (some ⟨w.heap.size, 0, none⟩) xs.length xs.length) xs := by
  refine ⟨some ⟨w.heap.size, 0, none⟩, xs.length, rfl, Nat.le_refl _, hn, (fun h => by cases h), .inr ⟨w.heap.size, 0, rfl, fun j hj => ?_⟩⟩
  have hb := (Blk.new w cs T).cell (0 + j)
  rw [hb, Nat.zero_add, ← Array.getElem?_toList, h]
  simp [hj]
theorem conv_bytes {v : Value} {xs : List Int} {w : World} (h : Rd .u8 w v xs) : (convert 87 9 v).run Tryd.prog w = .ok (.string (strOfNums xs)) w := by
  obtain ⟨a, cap, rfl, h1, h2, h0, h3⟩ := h
  cases a with
  | none =>
    have : xs = [] := List.eq_nil_of_length_eq_zero (by have := h0 rfl; omega)
    subst this
    exact run_convert_bytes_nil w _ _ Tryd.underlying87 Tryd.underlying5 _ _ _ Tryd.underlying9
  | some a =>
    rcases h3 with rfl | ⟨b, off, ha, hc⟩
    · obtain ⟨b, o, v⟩ := a
      have := run_convert_bytes_string (P := Tryd.prog) w 87 9 5 (some ⟨b, o, v⟩) 0 cap Tryd.underlying87 Tryd.underlying5 Tryd.underlying9
      simp only [List.length_nil]
      rw [this]
      simp [Conv.bytesToString, loadCells, strOfNums]
      rfl
    · simp only [Option.some.injEq] at ha
      subst ha
      exact run_convert_bytes_arg w _ _ Tryd.underlying87 Tryd.underlying5 b off xs.length cap xs rfl hc _ Tryd.underlying9

set_option maxRecDepth 100000 in
set_option maxHeartbeats 1600000 in
theorem plain_any (vl : Value) (k : List Int) (w : World) (hl : Rd .i32 w vl k) (hsz : k.length ≤ 1000000) :
    Calls Tryd.prog 59 #[vl] w fun e w' => e = .returned (.string (strOfNums (plainI k))) ∧ Below w.heap.size w w' := by
  obtain ⟨a, ca, rfl, ha1, ha2, _, ha3⟩ := hl
  have BE := Lib.hid byteE
  go_enter Tryd.func59, Tryd.ntmps59
  go_wp2
  go_loopw [3, 8] (fun s3 s8 wr => ∃ (i : Nat), i ≤ k.length ∧ s8 = .int .i64 i ∧ Own 5 .u8 w.heap.size wr s3 (plainI (k.take i)) ∧ Below w.heap.size w wr) (fun _ s8 _ => k.length - (intOf s8).toNat)
  case atStart => exact ⟨0, Nat.zero_le _, rfl, by simpa [plainI] using Own.nil _ _ _ _, Below.refl _ _⟩
  case round =>
    obtain ⟨i, hi, rfl, hown, hb⟩ := hrel
    obtain ⟨v, hv⟩ : ∃ v, u3 = v := ⟨_, rfl⟩
    rw [hv] at hown ⊢
    clear hv u3
    by_cases hlt : i < k.length
    · rcases ha3 with rfl | ⟨b1, o1, rfl, hc1⟩
      · simp at hlt
      have c1 : wr.cell? ⟨b1, o1 + i, none⟩ = some (.int .i32 (k.getD i 0)) := by rw [hb.cell (cell_lt (hc1 i hlt))]; exact hc1 i hlt
      clear hc1
      have htake := plainI_take k i hlt
      have hpl : (plainI (k.take i)).length ≤ 4000000 := by rw [plainI_len, List.length_take]; omega
      obtain ⟨x, hx⟩ : ∃ x, k.getD i 0 = x := ⟨_, rfl⟩
      rw [hx] at c1 htake
      clear hx
      have i0 : (0 : Int) ≤ (i : Int) := by omega
      have i1 : (i : Int) < (k.length : Int) := by omega
      obtain ⟨p0, hp0⟩ : ∃ p0, plainI (k.take i) = p0 := ⟨_, rfl⟩
      rw [hp0] at hown hpl htake
      have HTK := Lib.hid htake; clear htake hp0
      have hbs := hb.size
      obtain ⟨W1, hW1⟩ : ∃ W1, wr.alloc (.cells #[.int .u8 (x / 16777216 % 256), .int .u8 (x / 65536 % 256), .int .u8 (x / 256 % 256), .int .u8 (x % 256)] 5) = W1 := ⟨_, rfl⟩
      have hO1 : Own 5 .u8 w.heap.size W1 v p0 := by rw [← hW1]; exact World.ownsRow.alloc hown _
      have hR1 : Rd .u8 W1 (.slice (some ⟨wr.heap.size, 0, none⟩) 4 4) (bytes4 x) := by rw [← hW1]; exact rd_litK .u8 wr _ _ (bytes4 x) rfl (by simp [bytes4])
      have hB1 : Below w.heap.size w W1 := by rw [← hW1]; exact hb.alloc hbs _
      have l4 : (bytes4 x).length = 4 := rfl
      have HO1 := Lib.hid hO1; clear hO1
      have HR1 := Lib.hid hR1; clear hR1
      have HB1 := Lib.hid hB1; clear hB1
      have HL4 := Lib.hid l4; clear l4
      clear hown
      go_wp2_with (at_builtin; refine wpList_appendS BE.out rfl _ _ rfl w.heap.size _ _ HO1.out rfl _ _ HR1.out rfl (by rw [HL4.out]; omega) (by rw [HL4.out]; omega) HB1.out.size ?_; intro v' w2 hown' hgr _)
      have hB2 : Below w.heap.size w w2 := below_append' HB1.out HB1.out.size hgr (fun j hj => HO1.out.lt j hj)
      go_roundw
      case rel => exact ⟨i + 1, by omega, by go_num, by rw [HTK.out]; exact hown', hB2⟩
      case measure => simp [intOf]; omega
    · have i1 : ¬ (i : Int) < (k.length : Int) := by omega
      have hik : i = k.length := by omega
      rw [hik, List.take_length] at hown
      have hconv := conv_bytes hown.rd
      clear hown
      go_wp2
      go_ret
      exact ⟨rfl, hb⟩

theorem plainI_inj : ∀ {k k' : List Int}, (∀ x ∈ k, -2147483648 ≤ x ∧ x ≤ 2147483647) → (∀ x ∈ k', -2147483648 ≤ x ∧ x ≤ 2147483647) → plainI k = plainI k' → k = k' := by
  intro k
  induction k with
  | nil =>
    intro k' _ _ h
    have := congrArg List.length h
    rw [plainI_len, plainI_len] at this
    exact (List.eq_nil_of_length_eq_zero (by simp at this; omega)).symm
  | cons x k ih =>
    intro k' h1 h2 h
    cases k' with
    | nil =>
      have := congrArg List.length h
      rw [plainI_len, plainI_len] at this
      simp at this
    | cons y k' =>
      have e : bytes4 x ++ plainI k = bytes4 y ++ plainI k' := h
      obtain ⟨e1, e2⟩ := List.append_inj e rfl
      have hk := ih (fun z hz => h1 z (by simp [hz])) (fun z hz => h2 z (by simp [hz])) e2
      have hx := h1 x (by simp)
      have hy := h2 y (by simp)
      simp [bytes4] at e1
      have : x = y := by omega
      rw [this, hk]
theorem plainI_byte (k : List Int) : ∀ n ∈ plainI k, 0 ≤ n ∧ n < 256 := by
  intro n hn
  obtain ⟨x, _, hx⟩ := List.mem_flatMap.1 hn
  simp [bytes4] at hx
  rcases hx with h | h | h | h <;> omega
theorem strOfNums_inj : ∀ {xs ys : List Int}, (∀ n ∈ xs, 0 ≤ n ∧ n < 256) → (∀ n ∈ ys, 0 ≤ n ∧ n < 256) → strOfNums xs = strOfNums ys → xs = ys := by
  intro xs ys h1 h2 h
  have h3 : xs.map (fun n => UInt8.ofNat n.toNat) = ys.map (fun n => UInt8.ofNat n.toNat) := by rw [← strOfNums_data, ← strOfNums_data, h]
  clear h
  induction xs generalizing ys with
  | nil => cases ys with
    | nil => rfl
    | cons y ys => simp at h3
  | cons x xs ih =>
    cases ys with
    | nil => simp at h3
    | cons y ys =>
      simp only [List.map_cons, List.cons.injEq] at h3
      have hx := h1 x (by simp)
      have hy := h2 y (by simp)
      have e : x = y := by
        have := congrArg UInt8.toNat h3.1
        simp at this
        omega
      rw [e, ih (fun n hn => h1 n (by simp [hn])) (fun n hn => h2 n (by simp [hn])) h3.2]

end Go.Proofs.YtplobpelhcagpaaDoor
