/- FindP: the walks of FindPeriod, the reference's and the program's. -/
import Derived.Test.YtjklclegkjnegaaPSearch
namespace Go.Proofs.Ytjklclegkjnegaa
open Go.RowKit

/-- The fill of area k and width m is allowed, and there is a periodic one. -/
def perOk (ts : List Tile) (k m : Nat) : Bool := decide (k % m = 0) && decide (k / m ≤ 3) && someOf (perF ts m (k / m) k [])
def perQ (ts : List Tile) (i : Nat) : Bool := perOk ts (i / 3 + 1) (i % 3 + 1)
def PerRes (ts : List Tile) (x : List Nat) (a h : Int) (b : Bool) : Prop :=
  (∃ i, i < 27 ∧ Wangs ts ∧ perQ ts i = true ∧ (∀ j, j < i → perQ ts j = false) ∧ x = firstOf (perF ts (i % 3 + 1) ((i / 3 + 1) / (i % 3 + 1)) (i / 3 + 1) []) ∧ a = (i % 3 + 1 : Nat) ∧ h = ((i / 3 + 1) / (i % 3 + 1) : Nat) ∧ b = true) ∨
    ((Wangs ts → ∀ i, i < 27 → perQ ts i = false) ∧ x = [] ∧ a = 0 ∧ h = 0 ∧ b = false)
theorem first_or_none (p : Nat → Bool) : ∀ n, (∀ i, i < n → p i = false) ∨ ∃ i, i < n ∧ p i = true ∧ ∀ j, j < i → p j = false := by
  intro n
  induction n with
  | zero => exact .inl fun i hi => by omega
  | succ n ih =>
    rcases ih with h | ⟨i, h1, h2, h3⟩
    · cases hp : p n with
      | true => exact .inr ⟨n, by omega, hp, h⟩
      | false =>
        refine .inl fun i hi => ?_
        by_cases e : i = n
        · rw [e]; exact hp
        · exact h i (by omega)
    · exact .inr ⟨i, by omega, h2, h3⟩
theorem PerRes.total (ts : List Tile) : ∃ x a h b, PerRes ts x a h b := by
  by_cases hW : Wangs ts
  · rcases first_or_none (perQ ts) 27 with h | ⟨i, h1, h2, h3⟩
    · exact ⟨_, _, _, _, .inr ⟨fun _ => h, rfl, rfl, rfl, rfl⟩⟩
    · exact ⟨_, _, _, _, .inl ⟨i, h1, hW, h2, h3, rfl, rfl, rfl, rfl⟩⟩
  · exact ⟨_, _, _, _, .inr ⟨fun h => absurd h hW, rfl, rfl, rfl, rfl⟩⟩
theorem PerRes.same {ts : List Tile} {x y : List Nat} {a h a' h' : Int} {b b' : Bool} (h1 : PerRes ts x a h b) (h2 : PerRes ts y a' h' b') : x = y ∧ a = a' ∧ h = h' ∧ b = b' := by
  rcases h1 with ⟨i, i1, i2, i3, i4, rfl, rfl, rfl, rfl⟩ | ⟨q, rfl, rfl, rfl, rfl⟩
  · rcases h2 with ⟨j, j1, j2, j3, j4, rfl, rfl, rfl, rfl⟩ | ⟨q, rfl, rfl, rfl, rfl⟩
    · have e : i = j := by
        rcases Nat.lt_trichotomy i j with h | h | h
        · have := j4 i h; rw [i3] at this; cases this
        · exact h
        · have := i4 j h; rw [j3] at this; cases this
      rw [e]
      exact ⟨rfl, rfl, rfl, rfl⟩
    · have := q i2 i i1; rw [i3] at this; cases this
  · rcases h2 with ⟨j, j1, j2, j3, j4, rfl, rfl, rfl, rfl⟩ | ⟨q', rfl, rfl, rfl, rfl⟩
    · have := q j2 j j1; rw [j3] at this; cases this
    · exact ⟨rfl, rfl, rfl, rfl⟩
theorem PerRes.length {ts : List Tile} {x : List Nat} {a h : Int} {b : Bool} (q : PerRes ts x a h b) : x.length ≤ 9 := by
  rcases q with ⟨i, h1, _, _, _, rfl, _⟩ | ⟨_, rfl, _⟩
  · cases hF : perF ts (i % 3 + 1) ((i / 3 + 1) / (i % 3 + 1)) (i / 3 + 1) [] with
    | nil => simp [firstOf]
    | cons g Fs =>
      have hm : g ∈ perF ts (i % 3 + 1) ((i / 3 + 1) / (i % 3 + 1)) (i / 3 + 1) [] := by rw [hF]; simp
      have := fillsF_length ts _ _ [] g (List.mem_filter.1 hm).1
      simp [firstOf]
      simp at this
      omega
  · simp
theorem perQ_at {ts : List Tile} {k m : Nat} (hk : 1 ≤ k) (hm : 1 ≤ m ∧ m ≤ 3) : perQ ts (3 * (k - 1) + (m - 1)) = perOk ts k m := by
  have e1 : (3 * (k - 1) + (m - 1)) / 3 + 1 = k := by omega
  have e2 : (3 * (k - 1) + (m - 1)) % 3 + 1 = m := by omega
  unfold perQ
  rw [e1, e2]
theorem PerRes.found {ts : List Tile} {k m : Nat} (hk : 1 ≤ k ∧ k ≤ 9) (hm : 1 ≤ m ∧ m ≤ 3) (hW : Wangs ts) (h : perOk ts k m = true) (hb : ∀ j, j < 3 * (k - 1) + (m - 1) → perQ ts j = false) :
    PerRes ts (firstOf (perF ts m (k / m) k [])) (m : Nat) (k / m : Nat) true := by
  have e1 : (3 * (k - 1) + (m - 1)) / 3 + 1 = k := by omega
  have e2 : (3 * (k - 1) + (m - 1)) % 3 + 1 = m := by omega
  refine .inl ⟨3 * (k - 1) + (m - 1), by omega, hW, by rw [perQ_at hk.1 hm]; exact h, hb, ?_, ?_, ?_, rfl⟩
  · rw [e1, e2]
  · rw [e2]
  · rw [e1, e2]
theorem perQ_next {ts : List Tile} {k m : Nat} (hk : 1 ≤ k) (hm : 1 ≤ m ∧ m ≤ 3) (h : perOk ts k m = false) (hb : ∀ j, j < 3 * (k - 1) + (m - 1) → perQ ts j = false) : ∀ j, j < 3 * (k - 1) + (m + 1 - 1) → perQ ts j = false := by
  intro j hj
  by_cases e : j = 3 * (k - 1) + (m - 1)
  · rw [e, perQ_at hk hm]; exact h
  · exact hb j (by omega)

theorem results_tmp4 {fn : Func} {t u v x : Tmp} (h : fn.results = #[.tmp t, .tmp u, .tmp v, .tmp x]) (tmps : Array Value) (P : Program) (w : World) :
    (results fn tmps).run P w = .ok (.tuple #[tmps.getD t undef, tmps.getD u undef, tmps.getD v undef, tmps.getD x undef]) w := by
  simp [results, h]

set_option maxHeartbeats 1600000 in
theorem specPer (ad : Option Addr) (c : Nat) (ts : List Tile) (w : World) (hn : ts.length ≤ 1048576) (hc : CellsAt w ad (wangs ts)) :
    Calls Try.prog 7 #[.slice ad ts.length c] w fun e w' => ∃ ad' cap' x a h b, e = .returned (.tuple #[.slice ad' x.length cap', .int .i64 a, .int .i64 h, .bool b]) ∧ PerRes ts x a h b ∧
      w'.ownsRow w.heap.size 3 1 (.slice ad' x.length cap') x.length (ints (nats x)) ∧ Below w.heap.size w w' := by
  have hare := fun w (h : CellsAt w ad (wangs ts)) => specAre ad c ts w hn h
  have HARE := Lib.hid hare
  have HC := Lib.hid hc
  clear hare hc
  by_cases hW : Wangs ts
  · rw [decide_eq_true hW] at HARE
    have HW := Lib.hid hW
    clear hW
    go_enter Try.func7, Try.ntmps7
    go_wp2_with fail
    go_loopw [6] (fun i wr => ∃ k : Nat, 1 ≤ k ∧ k ≤ 10 ∧ i = .int .i64 k ∧ (∀ j, j < 3 * (k - 1) → perQ ts j = false) ∧ Below w.heap.size w wr) (fun i _ => 10 - (intOf i).toNat)
    case atStart => exact ⟨1, by omega, by omega, rfl, fun j hj => by omega, Below.refl _ _⟩
    case round =>
      obtain ⟨k, hk1, hk2, rfl, hq, hb⟩ := hrel
      have HQ := Lib.hid hq
      clear hq
      by_cases hlt : k ≤ 9
      · have hltd : decide ((k : Int) ≤ 9) = true := by simp; omega
        go_wp2_with fail
        refine (HARE.out _ (HC.out.below hb)).mono ?_
        rintro e w' ⟨rfl, rfl⟩
        go_wp2_with fail
        go_loopw [7] (fun i wr => ∃ m : Nat, 1 ≤ m ∧ m ≤ 4 ∧ i = .int .i64 m ∧ (∀ j, j < 3 * (k - 1) + (m - 1) → perQ ts j = false) ∧ Below w.heap.size w wr) (fun i _ => 4 - (intOf i).toNat)
        case atStart => exact ⟨1, by omega, by omega, rfl, HQ.out, hb⟩
        case round =>
          obtain ⟨m, hm1, hm2, rfl, hq2, hb2⟩ := hrel
          have HQ2 := Lib.hid hq2
          clear hq2
          by_cases hlt2 : m ≤ 3
          · obtain ⟨qd, hqd⟩ : ∃ q : Nat, q = k / m := ⟨_, rfl⟩
            obtain ⟨rm, hrm⟩ : ∃ r : Nat, r = k % m := ⟨_, rfl⟩
            have em : (k : Int) % (m : Int) = (rm : Int) := by rw [hrm]; norm_cast
            have ed : (k : Int) / (m : Int) = (qd : Int) := by rw [hqd]; norm_cast
            have hq9 : qd ≤ 9 := by rw [hqd]; exact Nat.le_trans (Nat.div_le_self _ _) hlt
            have hrl : rm < m := by rw [hrm]; exact Nat.mod_lt k (by omega)
            have hq1a : 0 ≤ (k : Int) / (m : Int) := by rw [ed]; omega
            have hq1b : (k : Int) / (m : Int) ≤ 9 := by rw [ed]; omega
            have hr1a : 0 ≤ (k : Int) % (m : Int) := by rw [em]; omega
            have hr1b : (k : Int) % (m : Int) ≤ 9 := by rw [em]; omega
            have hm0 : ¬ (m : Int) = 0 := by omega
            by_cases hdv : rm = 0
            · have hdvd : ((k : Int) % (m : Int) != 0) = false := by rw [em, hdv]; rfl
              by_cases hh : qd ≤ 3
              · have hhd : decide (3 < (k : Int) / (m : Int)) = false := by rw [ed]; simp; omega
                obtain ⟨pb, hpb⟩ : ∃ pb, pb = someOf (perF ts m qd k []) := ⟨_, rfl⟩
                have hok : perOk ts k m = pb := by unfold perOk; rw [← hqd, ← hrm, hpb]; simp [hdv, hh]
                have hkm : m * qd = k := by have := Nat.div_add_mod k m; rw [← hqd, ← hrm, hdv] at this; omega
                have hqd1 : 1 ≤ qd := by
                  rcases Nat.eq_zero_or_pos qd with h | h
                  · rw [h, Nat.mul_zero] at hkm; omega
                  · exact h
                have hbe : Below wr.heap.size wr (wr.alloc (.cells #[] 3)) := (Below.refl _ _).alloc (Nat.le_refl _) _
                have hbx := hb2.trans (hbe.mono hb2.size)
                have hsr := l19Search_any m qd wr.heap.size ts hn HW.out ⟨hm1, by omega⟩ ⟨hqd1, by omega⟩ k [] (wr.alloc (.cells #[] 3)) ad (some ⟨wr.heap.size, 0, none⟩) c 0 (by simp [hkm]) (InR.nil ts) (GoodF.nil ts m) hbe.size (HC.out.below hbx) (ownsRow_empty wr 3 1)
                rw [← hpb] at hsr
                rw [← ed] at hsr
                have HSR := Lib.hid hsr
                have HBX := Lib.hid hbx
                have HOK := Lib.hid hok
                have HPB := Lib.hid hpb
                have HQD := Lib.hid hqd
                have EM := Lib.hid em
                have ED := Lib.hid ed
                clear hsr hbe hbx hok hpb hqd hrm em ed hkm hdv hh
                go_wp2_with fail
                refine HSR.out.mono ?_
                rintro e w3 ⟨a3, c3, x3, rfl, hx3, ho3, hb3⟩
                have HX3 := Lib.hid hx3
                have HO3 := Lib.hid (ownsRow_rebase ho3 hb2.size)
                clear hx3 ho3
                have hb3' := HBX.out.trans (hb3.mono HBX.out.size)
                cases pb with
                | true =>
                  go_wp2
                  go_big_quiet (fail)
                  go_wp2
                  ((try simp only [Exit.inBlock, Exit.then]); refine bodyPost_ret (results_tmp4 rfl _ _ _) rfl ?_)
                  rw [ED.out, HX3.out trivial]
                  have hres := PerRes.found (ts := ts) ⟨hk1, hlt⟩ ⟨hm1, hlt2⟩ HW.out HOK.out HQ2.out
                  rw [← HQD.out] at hres
                  rw [HX3.out trivial] at HO3
                  exact ⟨a3, c3, _, _, _, _, rfl, hres, HO3.out, below_drewN hb3' _⟩
                | false =>
                  go_wp2
                  go_roundw
                  case rel => exact ⟨m + 1, by omega, by omega, by go_num, perQ_next hk1 ⟨hm1, hlt2⟩ HOK.out HQ2.out, hb3'⟩
                  case measure => simp [intOf]; omega
              · have hhd : decide (3 < (k : Int) / (m : Int)) = true := by rw [ed]; simp; omega
                have hno : perOk ts k m = false := by unfold perOk; rw [← hqd]; simp [hh]
                have HNO := Lib.hid hno
                have EM := Lib.hid em; have ED := Lib.hid ed; clear hno em ed hdv hh hqd hrm
                go_wp2_with fail
                go_roundw
                case rel => exact ⟨m + 1, by omega, by omega, by go_num, perQ_next hk1 ⟨hm1, hlt2⟩ HNO.out HQ2.out, hb2⟩
                case measure => simp [intOf]; omega
            · have hdvd : ((k : Int) % (m : Int) != 0) = true := by rw [em, bne_iff_ne]; omega
              have hno : perOk ts k m = false := by unfold perOk; rw [← hrm]; simp [hdv]
              have HNO := Lib.hid hno
              have EM := Lib.hid em; have ED := Lib.hid ed; clear hno em ed hdv hqd hrm
              go_wp2_with fail
              go_roundw
              case rel => exact ⟨m + 1, by omega, by omega, by go_num, perQ_next hk1 ⟨hm1, hlt2⟩ HNO.out HQ2.out, hb2⟩
              case measure => simp [intOf]; omega
          · obtain rfl : m = 4 := by omega
            go_wp2
            go_roundw
            case rel => exact ⟨k + 1, by omega, by omega, by go_num, fun j hj => HQ2.out j (by omega), hb2⟩
            case measure => simp [intOf]; omega
      · obtain rfl : k = 10 := by omega
        go_wp2
        have HE := Lib.hid (ownsRow_rebase (ownsRow_empty wr 3 1) hb.size)
        ((try simp only [Exit.inBlock, Exit.then]); refine bodyPost_ret (results_tmp4 rfl _ _ _) rfl ?_)
        exact ⟨_, _, [], _, _, _, rfl, .inr ⟨fun _ => HQ.out, rfl, rfl, rfl, rfl⟩, HE.out, hb.alloc hb.size _⟩
  · rw [decide_eq_false hW] at HARE
    have HW := Lib.hid hW
    clear hW
    go_enter Try.func7, Try.ntmps7
    go_wp2_with fail
    refine wp_loop_rounds 1 ?_
    rw [rounds_succ]
    go_wp2_with fail
    refine (HARE.out _ HC.out).mono ?_
    rintro e w' ⟨rfl, rfl⟩
    go_wp2
    have HE := Lib.hid (ownsRow_empty w 3 1)
    ((try simp only [Exit.inBlock, Exit.then]); refine bodyPost_ret (results_tmp4 rfl _ _ _) rfl ?_)
    exact ⟨_, _, [], _, _, _, rfl, .inr ⟨fun h => absurd h HW.out, rfl, rfl, rfl, rfl⟩, HE.out, (Below.refl _ _).alloc (Nat.le_refl _) _⟩
end Go.Proofs.Ytjklclegkjnegaa
