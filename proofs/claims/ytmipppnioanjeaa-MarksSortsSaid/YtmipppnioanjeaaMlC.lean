/-
  What a round of MarksPushes makes of the world: 'all', 'out', the mover and what it holds.
-/
import Derived.Test.YtmipppnioanjeaaMkD
namespace Go.Proofs.Ytmipppnioanjeaa
open Go.RowKit Pl14

structure PSt (b B : Nat) (w wr : World) (f5 f6 hs : List Int) (v5 v6 hv : Value) : Prop where
  hbw : w.heap.size ≤ b
  hbB : b < B
  hBr : B ≤ wr.heap.size
  own5 : Own 21 .i32 B wr v5 f5
  own6 : Own 21 .i32 B wr v6 f6
  mover : MoverAt wr b hv
  ownH : Own 21 .i32 0 wr hv hs
  hB : ∀ j, hv.ownBlock = some j → B ≤ j
  a56 : ∀ j, v5.ownBlock = some j → v6.ownBlock ≠ some j
  a5h : ∀ j, v5.ownBlock = some j → hv.ownBlock ≠ some j
  a6h : ∀ j, v6.ownBlock = some j → hv.ownBlock ≠ some j
  below : Below w.heap.size w wr

theorem PSt.hne {b B : Nat} {w wr : World} {f5 f6 hs : List Int} {v5 v6 hv : Value} (h : PSt b B w wr f5 f6 hs v5 v6 hv) : hv.ownBlock ≠ some b :=
  fun e => by have := h.hB b e; have := h.hbB; omega

theorem PSt.on {b B : Nat} {w wr w' : World} {f5 f6 hs : List Int} {v5 v6 hv : Value} (h : PSt b B w wr f5 f6 hs v5 v6 hv) (hb : Below wr.heap.size wr w') : PSt b B w w' f5 f6 hs v5 v6 hv :=
  ⟨h.hbw, h.hbB, Nat.le_trans h.hBr hb.size, h.own5.kept rfl hb, h.own6.kept rfl hb, h.mover.below hb (by have := h.hbB; have := h.hBr; omega), h.ownH.kept rfl hb, h.hB, h.a56, h.a5h, h.a6h,
    h.below.trans (hb.mono h.below.size)⟩

theorem PSt.all {b B : Nat} {w wr w' : World} {f5 f6 hs g5 : List Int} {v5 v6 hv v5' : Value} (h : PSt b B w wr f5 f6 hs v5 v6 hv)
    (hown : Own 21 .i32 B w' v5' g5) (hg : wr.grownBy w' v5.ownBlock) (hat : v5'.ownBlock = v5.ownBlock ∨ v5'.ownBlock = some wr.heap.size) : PSt b B w w' g5 f6 hs v5' v6 hv := by
  have K := Keep.of_grown hg
  have hs := K.size
  have h1 := h.hbw; have h2 := h.hbB; have h3 := h.hBr
  have l5 := h.own5.lt
  have l6 := h.own6.lt
  have lh := h.ownH.lt
  refine ⟨h.hbw, h.hbB, Nat.le_trans h.hBr hs, hown, h.own6.keep K (fun j hj e => h.a56 j e hj), h.mover.keep K (fun e => by have := l5 b e; omega), h.ownH.keep K (fun j hj e => h.a5h j e hj), h.hB, ?_, ?_, h.a6h, ?_⟩
  · intro j hj e
    rcases hat with q | q
    · exact h.a56 j (q ▸ hj) e
    · rw [q] at hj; simp at hj; have := l6 j e; omega
  · intro j hj e
    rcases hat with q | q
    · exact h.a5h j (q ▸ hj) e
    · rw [q] at hj; simp at hj; have := lh j e; omega
  · exact h.below.trans (K.below h.below.size (fun j hj => by have := l5 j hj; omega))

theorem PSt.out {b B : Nat} {w wr w' : World} {f5 f6 hs g6 : List Int} {v5 v6 hv v6' : Value} (h : PSt b B w wr f5 f6 hs v5 v6 hv)
    (hown : Own 21 .i32 B w' v6' g6) (hg : wr.grownBy w' v6.ownBlock) (hat : v6'.ownBlock = v6.ownBlock ∨ v6'.ownBlock = some wr.heap.size) : PSt b B w w' f5 g6 hs v5 v6' hv := by
  have K := Keep.of_grown hg
  have hs := K.size
  have h1 := h.hbw; have h2 := h.hbB; have h3 := h.hBr
  have l5 := h.own5.lt
  have l6 := h.own6.lt
  have lh := h.ownH.lt
  refine ⟨h.hbw, h.hbB, Nat.le_trans h.hBr hs, h.own5.keep K (fun j hj e => h.a56 j hj e), hown, h.mover.keep K (fun e => by have := l6 b e; omega), h.ownH.keep K (fun j hj e => h.a6h j e hj), h.hB, ?_, h.a5h, ?_, ?_⟩
  · intro j hj e
    rcases hat with q | q
    · exact h.a56 j hj (q ▸ e)
    · rw [q] at e; simp at e; have := l5 j hj; omega
  · intro j hj e
    rcases hat with q | q
    · exact h.a6h j (q ▸ hj) e
    · rw [q] at hj; simp at hj; have := lh j e; omega
  · exact h.below.trans (K.below h.below.size (fun j hj => by have := l6 j hj; omega))

theorem PSt.push {b B : Nat} {w wr w' : World} {f5 f6 hs r : List Int} {v5 v6 hv out hv' : Value} (h : PSt b B w wr f5 f6 hs v5 v6 hv)
    (hr : PushRel b hv hs r wr w' out hv') : PSt b B w w' f5 f6 (pushL hs r).2 v5 v6 hv' := by
  have K := hr.keep
  have hs := K.size
  have h1 := h.hbw; have h2 := h.hbB; have h3 := h.hBr
  have l5 := h.own5.lt
  have l6 := h.own6.lt
  have lh := h.ownH.lt
  refine ⟨h.hbw, h.hbB, Nat.le_trans h.hBr hs, h.own5.keep K ?_, h.own6.keep K ?_, hr.mover, hr.ownH, ?_, h.a56, ?_, ?_, ?_⟩
  · intro j hj e
    rcases e with e | e
    · have := l5 j hj; omega
    · exact h.a5h j hj e
  · intro j hj e
    rcases e with e | e
    · have := l6 j hj; omega
    · exact h.a6h j hj e
  · intro j hj
    rcases hr.at_ j hj with e | e
    · exact h.hB j e
    · omega
  · intro j hj e
    rcases hr.at_ j e with q | q
    · exact h.a5h j hj q
    · have := l5 j hj; omega
  · intro j hj e
    rcases hr.at_ j e with q | q
    · exact h.a6h j hj q
    · have := l6 j hj; omega
  · refine h.below.trans (K.below h.below.size ?_)
    intro j hj
    rcases hj with e | e
    · omega
    · have := h.hB j e; omega

theorem behind_append (f r : List Int) : behind (f ++ r) = behind f ++ (pushL (heldL f) r).1 := by
  unfold behind heldL; rw [pushL_append]
theorem heldL_append (f r : List Int) : heldL (f ++ r) = (pushL (heldL f) r).2 := by
  unfold heldL; rw [pushL_append]
theorem flat_take (rs : List (List Int)) (i : Nat) (h : i < rs.length) : (rs.take (i + 1)).flatten = (rs.take i).flatten ++ rs.getD i [] := by
  rw [List.take_succ_eq_append_getElem h, List.flatten_append]; congr 1; simp [h]

end Go.Proofs.Ytmipppnioanjeaa
