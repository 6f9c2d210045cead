/-
  append, in my own words: one number more; a whole slice more (nil too).
-/
import Derived.Test.YtplobpelhcagpaaDoorLibA
import Derived.Laws.AppendOwnNone
import Derived.Maps.AppendAt
namespace Go.Proofs.YtplobpelhcagpaaDoor
open Go.RowKit

/-- the slice type t of elements e, integers of the kind k -/
structure Elem (P : Program) (t e : TypeId) (k : IntKind) (bytes : Nat) : Prop where
  ht : P.underlying t = some (.slice e)
  hi : ∃ i, P.info? e = some i ∧ i.zero = some (.int k 0) ∧ i.size = 1 ∧ i.bytes = bytes

theorem Elem.mk' {P : Program} {t e : TypeId} {k : IntKind} {bytes : Nat} (ht : P.underlying t = some (.slice e))
    (h : (P.info? e).map (fun i => (i.zero, i.size, i.bytes)) = some (some (.int k 0), 1, bytes)) : Elem P t e k bytes := by
  obtain ⟨i, h1, h2, h3, h4⟩ := info_parts h
  exact ⟨ht, i, h1, h2, h3, h4⟩

section
variable {P : Program} {t e : TypeId} {k : IntKind} {bytes : Nat} (E : Elem P t e k bytes)
include E

theorem wpList_append1 {w : World} {ops : Array Oper} {rest : List Oper} {o : Oper} {a : Act} {Q : Exit → Act → World → Prop} (hgd : o.guard = none) (s x : Operand)
    (ho : o.op = .call { callee := .builtin .append, args := #[s, x], argTypes := #[t, t] })
    (base : Nat) (v : Value) (xs : List Int) (hown : Own e k base w v xs) (hs : a.eval s = v) (y : Int) (T : TypeId)
    (hx : a.eval x = .slice (some ⟨w.heap.size, 0, none⟩) 1 1) (hbytes : (xs.length + 1) * bytes ≤ 140737488355328) (hlen : xs.length ≤ 140737488355328) (hbase : base ≤ w.heap.size)
    (h : ∀ v' w', Own e k base w' v' (xs ++ [y]) → (w.alloc (.cells #[.int k y] T)).grownBy w' v.ownBlock → (v'.ownBlock = v.ownBlock ∨ v'.ownBlock = some (w.heap.size + 1)) → wpList P ops Q rest (a.put o.dst v') w') :
    wpList P ops Q (o :: rest) a (w.alloc (.cells #[.int k y] T)) := by
  obtain ⟨i, hi, hz, hsz, hby⟩ := E.hi
  refine wpList_append_own_at _ hgd s x t ho base e i (.int k 0) 1 bytes E.ht hi hz hsz hby rfl (by decide) v xs.length (xs.map (Value.int k)) hs (World.ownsRow.alloc hown _)
    ⟨w.heap.size, 0, none⟩ 1 1 [.int k y] hx rfl (cell_one_new _ _ _) (by simp [Value.oneCell']) (by unfold maxLen; omega) hbytes (by simp; omega) ?_
  intro v' w1 h1 h2 _ h4
  exact h v' w1 (Own.appended (ys := [y]) h1) h2 (by simpa using h4)

theorem wpList_appendS {w : World} {ops : Array Oper} {rest : List Oper} {o : Oper} {a : Act} {Q : Exit → Act → World → Prop} (hgd : o.guard = none) (s x : Operand)
    (ho : o.op = .call { callee := .builtin .append, args := #[s, x], argTypes := #[t, t] })
    (base : Nat) (v : Value) (xs : List Int) (hown : Own e k base w v xs) (hs : a.eval s = v) (vx : Value) (ys : List Int)
    (hrd : Rd k w vx ys) (hx : a.eval x = vx) (hbytes : (xs.length + ys.length) * bytes ≤ 140737488355328) (hlen : xs.length + ys.length ≤ 140737488355328) (hbase : base ≤ w.heap.size)
    (h : ∀ v' w', Own e k base w' v' (xs ++ ys) → w.grownBy w' v.ownBlock → (v'.ownBlock = v.ownBlock ∨ v'.ownBlock = some w.heap.size) → wpList P ops Q rest (a.put o.dst v') w') :
    wpList P ops Q (o :: rest) a w := by
  obtain ⟨i, hi, hz, hsz, hby⟩ := E.hi
  obtain ⟨ad, cap, rfl, h1, h2, h0, h3⟩ := hrd
  rcases h3 with rfl | ⟨b, off, rfl, hc⟩
  · cases ad with
    | none =>
      obtain rfl := h0 rfl
      refine wpList_append_own_none hgd s x t ho base e i 1 E.ht hi v xs.length _ hs hown hx ?_
      exact h v w (by simpa using hown) ⟨rfl, rfl, rfl, Nat.le_refl _, fun _ _ _ => rfl⟩ (.inl rfl)
    | some ad =>
      refine wpList_append_own_at _ hgd s x t ho base e i (.int k 0) 1 bytes E.ht hi hz hsz hby rfl (by decide) v xs.length (xs.map (Value.int k)) hs hown
        ad 0 cap [] hx rfl (by simp) (by simp) (by unfold maxLen; omega) (by simpa using hbytes) hbase ?_
      intro v' w1 h1 h2 _ h4
      exact h v' w1 (Own.appended (ys := []) h1) h2 h4
  · refine wpList_append_own_at _ hgd s x t ho base e i (.int k 0) 1 bytes E.ht hi hz hsz hby rfl (by decide) v xs.length (xs.map (Value.int k)) hs hown
      ⟨b, off, none⟩ ys.length cap (ys.map (Value.int k)) hx (by simp) ?_ ?_ (by unfold maxLen; omega) hbytes hbase ?_
    · intro j u hu
      have hj : j < ys.length := by
        have := (List.getElem?_eq_some_iff.1 hu).1; simpa using this
      have := hc j hj
      simp [hj] at hu
      have ead : (⟨b, off, none⟩ : Addr).add j = ⟨b, off + j, none⟩ := by unfold Addr.add; split <;> simp_all
      rw [ead, this, ← hu]
      simp [hj]
    · intro u hu
      obtain ⟨y, _, rfl⟩ := List.mem_map.1 hu
      rfl
    · intro v' w1 h1 h2 _ h4
      exact h v' w1 (Own.appended h1) h2 h4
end

theorem rd_sub {k : IntKind} {w : World} {b o f i c : Nat} {xs : List Int} (hc : ∀ j, j < xs.length → w.cell? ⟨b, o + j, none⟩ = some (.int k (xs.getD j 0))) (hf : f ≤ i) (hi : i ≤ xs.length)
    (hcap : i - f ≤ c) (hmax : c ≤ 9223372036854775807) : Rd k w (.slice (some ⟨b, o + f, none⟩) (i - f) c) ((xs.take i).drop f) := by
  have hl : ((xs.take i).drop f).length = i - f := by simp; omega
  refine ⟨some ⟨b, o + f, none⟩, c, by rw [hl], by omega, hmax, (fun h => by cases h), .inr ⟨b, o + f, rfl, fun j hj => ?_⟩⟩
  rw [hl] at hj
  have := hc (f + j) (by omega)
  rw [← Nat.add_assoc] at this
  rw [this]
  have h1 : f + j < xs.length := by omega
  have h2 : j < i - f := hj
  have h3 : f + j < i := by omega
  simp [h3, h1]

/-- the slice type t of elements e, of one cell each, whose zero value is z -/
structure ElemV (P : Program) (t e : TypeId) (z : Value) (bytes : Nat) : Prop where
  ht : P.underlying t = some (.slice e)
  hi : ∃ i, P.info? e = some i ∧ i.zero = some z ∧ i.size = 1 ∧ i.bytes = bytes
  hz : z.cells.size = 1

theorem ElemV.mk' {P : Program} {t e : TypeId} {z : Value} {bytes : Nat} (ht : P.underlying t = some (.slice e)) (hz : z.cells.size = 1)
    (h : (P.info? e).map (fun i => (i.zero, i.size, i.bytes)) = some (some z, 1, bytes)) : ElemV P t e z bytes := by
  obtain ⟨i, h1, h2, h3, h4⟩ := info_parts h
  exact ⟨ht, ⟨i, h1, h2, h3, h4⟩, hz⟩

theorem wpList_append1V {P : Program} {t e : TypeId} {z : Value} {bytes : Nat} (E : ElemV P t e z bytes)
    {w : World} {ops : Array Oper} {rest : List Oper} {o : Oper} {a : Act} {Q : Exit → Act → World → Prop} (hgd : o.guard = none) (s x : Operand)
    (ho : o.op = .call { callee := .builtin .append, args := #[s, x], argTypes := #[t, t] })
    (base : Nat) (v : Value) (xs : List Value) (hown : w.ownsRow base e 1 v xs.length xs) (hs : a.eval s = v) (y : Value) (T : TypeId)
    (hx : a.eval x = .slice (some ⟨w.heap.size, 0, none⟩) 1 1) (hy : y.oneCell' = true) (hbytes : (xs.length + 1) * bytes ≤ 140737488355328) (hlen : xs.length ≤ 140737488355328) (hbase : base ≤ w.heap.size)
    (h : ∀ v' w', w'.ownsRow base e 1 v' (xs ++ [y]).length (xs ++ [y]) → (w.alloc (.cells #[y] T)).grownBy w' v.ownBlock → (v'.ownBlock = v.ownBlock ∨ v'.ownBlock = some (w.heap.size + 1)) → wpList P ops Q rest (a.put o.dst v') w') :
    wpList P ops Q (o :: rest) a (w.alloc (.cells #[y] T)) := by
  obtain ⟨i, hi, hz, hsz, hby⟩ := E.hi
  refine wpList_append_own_at _ hgd s x t ho base e i z 1 bytes E.ht hi hz hsz hby E.hz (by decide) v xs.length xs hs (World.ownsRow.alloc hown _)
    ⟨w.heap.size, 0, none⟩ 1 1 [y] hx rfl (cell_one_new _ _ _) (by simpa using hy) (by unfold maxLen; omega) hbytes (by simp; omega) ?_
  intro v' w1 h1 h2 _ h4
  exact h v' w1 (by simpa using h1) h2 (by simpa using h4)

theorem ownsRow_shapeV {w : World} {B : Nat} {e : TypeId} {v : Value} {xs : List Value} (h : w.ownsRow B e 1 v xs.length xs) :
    ∃ a cap, v = .slice a xs.length cap ∧ xs.length ≤ cap ∧ cap ≤ 9223372036854775807 ∧ ((a = none ∧ cap = 0 ∧ xs = []) ∨ ∃ g, a = some ⟨g, 0, none⟩ ∧ B ≤ g ∧ g < w.heap.size) := by
  rcases h.2 with ⟨rfl, hn⟩ | ⟨g, cap, cur, rfl, hB, hg, hnc, hcm, hcs, htk⟩
  · have : xs = [] := List.eq_nil_of_length_eq_zero hn
    subst this; exact ⟨none, 0, rfl, by simp, by simp, .inl ⟨rfl, rfl, rfl⟩⟩
  · exact ⟨_, cap, rfl, hnc, hcm, .inr ⟨g, rfl, hB, (Array.getElem?_eq_some_iff.1 hg).1⟩⟩

theorem ownsRow_keepV {w w' : World} {B : Nat} {e : TypeId} {v : Value} {xs : List Value} {S : Nat → Prop} (h : w.ownsRow B e 1 v xs.length xs) (hk : Keep S w w')
    (hs : ∀ j, v.ownBlock = some j → ¬ S j) : w'.ownsRow B e 1 v xs.length xs := by
  refine ⟨h.1, ?_⟩
  rcases h.2 with hn | ⟨g, cap, cur, rfl, hb, hgg, rest⟩
  · exact .inl hn
  · refine .inr ⟨g, cap, cur, rfl, hb, ?_, rest⟩
    rw [hk.block g (Array.getElem?_eq_some_iff.1 hgg).1 (hs g rfl)]
    exact hgg

theorem Rd.take {k : IntKind} {w : World} {a : Option Addr} {n cap q : Nat} {xs : List Int} (h : Rd k w (.slice a n cap) xs) (hq : q ≤ xs.length) : Rd k w (.slice a q cap) (xs.take q) := by
  obtain ⟨a', cap', hv, h1, h2, h0, h3⟩ := h
  simp only [Value.slice.injEq] at hv
  obtain ⟨rfl, rfl, rfl⟩ := hv
  have hl : (xs.take q).length = q := by simp; omega
  refine ⟨a, cap, by rw [hl], by omega, h2, h0, ?_⟩
  rcases h3 with rfl | ⟨b, off, ha, hc⟩
  · left; simp
  · right
    refine ⟨b, off, ha, fun j hj => ?_⟩
    rw [hl] at hj
    rw [hc j (by omega)]
    have h4 : j < xs.length := by omega
    simp [hj, h4]

theorem Rd.cells {k : IntKind} {w : World} {b o n cap : Nat} {xs : List Int} (h : Rd k w (.slice (some ⟨b, o, none⟩) n cap) xs) : ∀ j, j < xs.length → w.cell? ⟨b, o + j, none⟩ = some (.int k (xs.getD j 0)) := by
  obtain ⟨a', cap', hv, h1, h2, h0, h3⟩ := h
  simp only [Value.slice.injEq] at hv
  obtain ⟨rfl, rfl, rfl⟩ := hv
  rcases h3 with rfl | ⟨b', o', ha, hc⟩
  · intro j hj; simp at hj
  · simp only [Option.some.injEq, Addr.mk.injEq, and_true] at ha
    obtain ⟨rfl, rfl⟩ := ha
    exact hc

end Go.Proofs.YtplobpelhcagpaaDoor
