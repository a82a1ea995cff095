/- TorAll0: the masks of all pieces on a torus; plain. -/
import Derived.Test.YtmpcmeeoiapbdaaGreatDoorTorus0
import Derived.Test.YtmpcmeeoiapbdaaGreatDoorLow0
namespace Go.Proofs.YtmpcmeeoiapbdaaGreatDoor
open Go.RowKit

def torP (W H : Nat) (s : List Cl) : List Int := putAllG ltI (torTo W H (orientL s) (orientL s).length)
def torAllTo (W H : Nat) (ps : List (List Cl)) : Nat → List Int
  | 0 => []
  | i + 1 => torAllTo W H ps i ++ torP W H (ps.getD i default)
def torAll (W H : Nat) (ps : List (List Cl)) : List Int := putAllG ltI (torAllTo W H ps ps.length)
theorem torP_length {W H : Nat} (h : W * H ≤ 25) (s : List Cl) : (torP W H s).length ≤ 200 := by
  have h1 := putAllG_length (lt := ltI) (torTo W H (orientL s) (orientL s).length)
  have h2 := torTo_length W H h (orientL s) (orientL s).length
  have h3 := orientL_length s
  unfold torP
  omega
theorem torAllTo_length {W H : Nat} (h : W * H ≤ 25) (ps : List (List Cl)) : ∀ i, (torAllTo W H ps i).length ≤ i * 200
  | 0 => Nat.le_refl _
  | i + 1 => by
    have h1 := torAllTo_length h ps i
    have h2 := torP_length h (ps.getD i default)
    unfold torAllTo
    rw [List.length_append]
    omega
theorem torAll_length {W H : Nat} (h : W * H ≤ 25) {ps : List (List Cl)} (hp : ps.length ≤ 5) : (torAll W H ps).length ≤ 1000 := by
  have h1 := putAllG_length (lt := ltI) (torAllTo W H ps ps.length)
  have h2 := torAllTo_length h ps ps.length
  unfold torAll
  omega
theorem torS_pos (W H a : Nat) {t : List Cl} (ht : 1 ≤ t.length) : 0 < (torS W H a t).1 := by
  have h : ∀ (P : List Cl) (s : Nat × Bool), 0 < s.1 → 0 < (P.foldl (torStep W H a) s).1 := by
    intro P
    induction P with
    | nil => intro s h; exact h
    | cons c P ih =>
      intro s h
      rw [List.foldl_cons]
      refine ih _ ?_
      unfold torStep
      exact Nat.lt_of_lt_of_le h Nat.left_le_or
  cases t with
  | nil => simp at ht
  | cons c P =>
    unfold torS
    rw [List.foldl_cons]
    refine h P _ ?_
    unfold torStep
    exact Nat.lt_of_lt_of_le (Nat.two_pow_pos _) Nat.right_le_or
/-- A mask of cells on a torus: not empty, within the torus. -/
def TMk (n : Nat) (v : Int) : Prop := 0 < v ∧ v < ((2 ^ n : Nat) : Int)
theorem torOne_mk {W H : Nat} (hW : 0 < W) (hH : 0 < H) {t : List Cl} (ht : 1 ≤ t.length) (a : Nat) : ∀ v ∈ torOne W H t a, TMk (W * H) v := by
  intro v hv
  unfold torOne at hv
  split at hv
  · rw [List.mem_singleton] at hv
    subst hv
    have h1 := torS_pos W H a ht
    have h2 := torS_lt (a := a) hW hH t
    refine ⟨by omega, ?_⟩
    exact_mod_cast h2
  · simp at hv
theorem torRow_mk {W H : Nat} (hW : 0 < W) (hH : 0 < H) {t : List Cl} (ht : 1 ≤ t.length) : ∀ a, ∀ v ∈ torRow W H t a, TMk (W * H) v
  | 0 => fun v hv => by simp [torRow] at hv
  | a + 1 => fun v hv => by
    unfold torRow at hv
    rcases List.mem_append.1 hv with hv | hv
    · exact torRow_mk hW hH ht a v hv
    · exact torOne_mk hW hH ht a v hv
theorem torTo_mk {W H : Nat} (hW : 0 < W) (hH : 0 < H) {rows : List (List Cl)} (hr : ∀ t ∈ rows, 1 ≤ t.length) : ∀ i, i ≤ rows.length → ∀ v ∈ torTo W H rows i, TMk (W * H) v
  | 0 => fun _ v hv => by simp [torTo] at hv
  | i + 1 => fun hi v hv => by
    unfold torTo at hv
    rcases List.mem_append.1 hv with hv | hv
    · exact torTo_mk hW hH hr i (by omega) v hv
    · rw [getDG (by omega)] at hv
      exact torRow_mk hW hH (hr _ (List.getElem_mem _)) _ v hv
theorem torP_mk {W H : Nat} (hW : 0 < W) (hH : 0 < H) (s : List Cl) : ∀ v ∈ torP W H s, TMk (W * H) v := fun v hv => by
  unfold torP at hv
  exact torTo_mk hW hH (fun t ht => (orientL_shape ht).2.1) _ (Nat.le_refl _) v ((mem_putAllG wholeI _ v).1 hv)
theorem torAllTo_mk {W H : Nat} (hW : 0 < W) (hH : 0 < H) (ps : List (List Cl)) : ∀ i, ∀ v ∈ torAllTo W H ps i, TMk (W * H) v
  | 0 => fun v hv => by simp [torAllTo] at hv
  | i + 1 => fun v hv => by
    unfold torAllTo at hv
    rcases List.mem_append.1 hv with hv | hv
    · exact torAllTo_mk hW hH ps i v hv
    · exact torP_mk hW hH _ v hv
theorem torAll_mk {W H : Nat} (hW : 0 < W) (hH : 0 < H) (ps : List (List Cl)) : ∀ v ∈ torAll W H ps, TMk (W * H) v := fun v hv => by
  unfold torAll at hv
  exact torAllTo_mk hW hH ps _ v ((mem_putAllG wholeI _ v).1 hv)
theorem TMk.mk {n : Nat} (hn : n ≤ 25) {v : Int} (h : TMk n v) : Mk v := by
  have h2 : 2 ^ n ≤ 2 ^ 25 := Nat.pow_le_pow_right (by decide) hn
  obtain ⟨h0, h1⟩ := h
  unfold Mk
  omega
end Go.Proofs.YtmpcmeeoiapbdaaGreatDoor
