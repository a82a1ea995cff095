/- PSearch: the reference's search for a periodic fill. -/
import Derived.Test.YtjklclegkjnegaaPeriod
import Derived.Test.YtjklclegkjnegaaFind
namespace Go.Proofs.Ytjklclegkjnegaa
open Go.RowKit

def clos (ts : List Tile) (A B : Nat) (f : List Nat) : Bool := decide (Closes ts A B f)
/-- The periodic ones of the fills. -/
def perF (ts : List Tile) (A B n : Nat) (f : List Nat) : List (List Nat) := (fillsF ts A n f).filter (clos ts A B)
def perTo (ts : List Tile) (A B n : Nat) (f : List Nat) (k : Nat) : List (List Nat) := (fillsTo ts A n f k).filter (clos ts A B)
theorem perTo_yes {ts : List Tile} {A B n : Nat} {f : List Nat} {k : Nat} (h : fitsB ts A f k = true) : perTo ts A B n f (k + 1) = perTo ts A B n f k ++ perF ts A B n (f ++ [k]) := by
  unfold perTo perF; rw [fillsTo_yes h, List.filter_append]
theorem perTo_no {ts : List Tile} {A B n : Nat} {f : List Nat} {k : Nat} (h : fitsB ts A f k = false) : perTo ts A B n f (k + 1) = perTo ts A B n f k := by
  unfold perTo; rw [fillsTo_no h]
theorem perTo_all (ts : List Tile) (A B n : Nat) (f : List Nat) : perTo ts A B n f ts.length = perF ts A B (n + 1) f := by
  unfold perTo perF; rw [fillsTo_all]
theorem perTo_mono {ts : List Tile} {A B n : Nat} {f : List Nat} {k m : Nat} (h : k ≤ m) : perTo ts A B n f k <+: perTo ts A B n f m := (fillsTo_mono h).filter _

/-- Every tile of f fits behind those before it. -/
def GoodF (ts : List Tile) (A : Nat) (f : List Nat) : Prop := ∀ i, i < f.length → fitsB ts A (f.take i) (At f i) = true
theorem GoodF.nil (ts : List Tile) (A : Nat) : GoodF ts A [] := fun i hi => by simp at hi
theorem GoodF.snoc {ts : List Tile} {A : Nat} {f : List Nat} {k : Nat} (h : GoodF ts A f) (hf : fitsB ts A f k = true) : GoodF ts A (f ++ [k]) := by
  intro i hi
  rw [List.length_append, List.length_singleton] at hi
  by_cases e : i < f.length
  · have h1 := h i e
    have e1 : At (f ++ [k]) i = At f i := by unfold At; simp [List.getElem?_append_left e]
    rw [e1, List.take_append_of_le_length (by omega)]
    exact h1
  · obtain rfl : i = f.length := by omega
    have e1 : At (f ++ [k]) f.length = k := by unfold At; simp
    rw [e1, List.take_append_of_le_length (by omega), List.take_length]
    exact hf
theorem nats_back (f : List Nat) : (nats f).map Int.toNat = f := by
  unfold nats
  rw [List.map_map]
  conv => rhs; rw [← List.map_id f]
  exact List.map_congr_left fun x _ => rfl
theorem GoodF.fill {ts : List Tile} {A B : Nat} {f : List Nat} (hW : Wangs ts) (hA : 1 ≤ A ∧ A ≤ 4) (hB : 1 ≤ B ∧ B ≤ 4) (hlen : f.length = A * B) (hin : InR ts f) (h : GoodF ts A f) : IsFill ts A B (nats f) := by
  refine ⟨hW, ⟨⟨by omega, by omega⟩, by omega, by omega⟩, by rw [nats_length, hlen]; norm_cast, ?_⟩
  intro i hi
  rw [nats_length] at hi
  have e1 : Xa (nats f) i = (At f i : Int) := by unfold Xa At nats; simp [hi]
  have e2 : ((nats f).take i).map Int.toNat = f.take i := by rw [List.map_take, nats_back]
  rw [e1, e2]
  have h2 := hin i hi
  exact ⟨by omega, h i hi⟩

theorem periodic_call (ad af : Option Addr) (c cf : Nat) (ts : List Tile) (f : List Nat) (A B : Nat) (w : World) (hn : ts.length ≤ 1048576) (hW : Wangs ts) (hA : 1 ≤ A ∧ A ≤ 4) (hB : 1 ≤ B ∧ B ≤ 4) (hlen : f.length = A * B) (hin : InR ts f) (h : GoodF ts A f)
    (hcap : f.length ≤ cf) (hc : CellsAt w ad (wangs ts)) (hcf : CellsAt w af (ints (nats f))) :
    Calls Try.prog 17 #[.slice ad ts.length c, .int .i64 A, .int .i64 B, .slice af f.length cf] w fun e w' => e = .returned (.bool (clos ts A B f)) ∧ Below w.heap.size w w' := by
  have q0 : A * B ≤ 16 := Nat.mul_le_mul hA.2 hB.2
  have h0 := specPeriodic ad af c cf ts A B (nats f) w hn (by rw [nats_length]; omega) (by rw [nats_length]; exact hcap) hc hcf
  have e : decide (IsPer ts A B (nats f)) = clos ts A B f := by
    refine decide_eq_decide.2 ⟨fun q => ?_, fun q => ⟨h.fill hW hA hB hlen hin, ?_⟩⟩
    · have := q.2
      rw [nats_back] at this
      exact this
    · rw [nats_back]
      exact q
  rw [e, nats_length] at h0
  exact h0

theorem row_le_cap {w : World} {base e size n cap : Nat} {ad : Option Addr} {xs : List Value} (h : w.ownsRow base e size (.slice ad n cap) n xs) : n ≤ cap := by
  rcases h.2 with ⟨h1, h2⟩ | ⟨g, c, cur, h1, h2, h3, h4⟩
  · omega
  · cases h1; omega

set_option maxHeartbeats 1600000 in
theorem l19Search_any (A B base : Nat) (ts : List Tile) (hn : ts.length ≤ 1048576) (hW : Wangs ts) (hA : 1 ≤ A ∧ A ≤ 4) (hB : 1 ≤ B ∧ B ≤ 4) : ∀ (n : Nat) (f : List Nat) (w : World) (ad af : Option Addr) (c cf : Nat),
    f.length + n = A * B → InR ts f → GoodF ts A f → base ≤ w.heap.size → CellsAt w ad (wangs ts) → w.ownsRow base 3 1 (.slice af f.length cf) f.length (ints (nats f)) →
    Calls Try.prog 21 #[.slice ad ts.length c, .int .i64 A, .int .i64 B, .slice af f.length cf] w fun e w' => ∃ ad' cap' x, e = .returned (.tuple #[.slice ad' x.length cap', .bool (someOf (perF ts A B n f))]) ∧
      (someOf (perF ts A B n f) = true → x = firstOf (perF ts A B n f)) ∧ w'.ownsRow base 3 1 (.slice ad' x.length cap') x.length (ints (nats x)) ∧ Below w.heap.size w w' := by
  have q0 : A * B ≤ 16 := Nat.mul_le_mul hA.2 hB.2
  have q1 : 0 ≤ (A : Int) * (B : Int) := by exact Int.mul_nonneg (by omega) (by omega)
  have q2 : (A : Int) * (B : Int) ≤ 16 := by exact_mod_cast q0
  have HW := Lib.hid hW
  clear hW
  intro n
  induction n with
  | zero =>
    intro f w ad af c cf hlen hin hgood hbase hc hown
    have hl : ((f.length : Int) == (A : Int) * (B : Int)) = true := by rw [beq_iff_eq]; exact_mod_cast hlen
    have hcap : f.length ≤ cf := row_le_cap hown
    have hper := periodic_call ad af c cf ts f A B w hn HW.out hA hB hlen hin hgood hcap hc (ownsRow_cellsAt hown)
    have e2 : someOf (perF ts A B 0 f) = clos ts A B f := by
      unfold perF fillsF someOf
      cases h : clos ts A B f <;> simp [h]
    have e1 : clos ts A B f = true → f = firstOf (perF ts A B 0 f) := by
      intro h
      unfold perF fillsF firstOf
      simp [h]
    rw [e2]
    have HO := Lib.hid hown
    have HPER := Lib.hid hper
    have E1 := Lib.hid e1
    have hfl : f.length ≤ 16 := by omega
    clear hc hin hlen hown e1 e2 hper hgood
    go_enter Try.func21, Try.ntmps21
    go_wp2_with fail
    refine HPER.out.mono ?_
    rintro e w1 ⟨rfl, hb1⟩
    go_wp2
    go_ret2
    exact ⟨af, cf, f, rfl, E1.out, ownsRow_rebase (ownsRow_far_below (ownsRow_rebase HO.out (Nat.le_refl _)) hb1 (Nat.le_refl _)) (Nat.le_refl _), hb1⟩
  | succ n ih =>
    intro f w ad af c cf hlen hin hgood hbase hc hown
    have hl : ((f.length : Int) == (A : Int) * (B : Int)) = false := by
      rw [beq_eq_false_iff_ne]
      intro h
      have : f.length = A * B := by exact_mod_cast h
      omega
    have hfl : f.length ≤ 16 := by omega
    have IH := Lib.hid ih
    have HIN := Lib.hid hin
    have HG := Lib.hid hgood
    have HNIL := Lib.hid (ownsRow_nil_cap hown)
    have HC := Lib.hid hc
    have HCF := Lib.hid (ownsRow_cellsAt hown)
    have HLEN := Lib.hid hlen
    have hnl := nats_length f
    have hil := ints_length (nats f)
    obtain ⟨ha1, ha2⟩ := hA
    obtain ⟨hb1, hb2⟩ := hB
    clear ih hin hc hown hlen hgood
    go_enter Try.func21, Try.ntmps21
    go_wp2_with fail
    go_loopw [10] (fun i wr => ∃ k : Nat, k ≤ ts.length ∧ i = .int .i64 k ∧ perTo ts A B n f k = [] ∧ Below w.heap.size w wr) (fun i _ => ts.length - (intOf i).toNat)
    case atStart => exact ⟨0, by omega, rfl, rfl, Below.refl _ _⟩
    case round =>
      obtain ⟨k, hk, rfl, hnone, hb⟩ := hrel
      have HCR := Lib.hid (HC.out.below hb)
      have HFR := Lib.hid (HCF.out.below hb)
      have HNONE := Lib.hid hnone
      have hsz := hb.size
      clear hnone
      by_cases hlt : k < ts.length
      · have hfit := l18Fits_any ad af c cf ts f A k wr hn (by omega) ⟨ha1, ha2⟩ hlt HIN.out HCR.out HFR.out
        by_cases hfb : fitsB ts A f k = true
        · rw [hfb] at hfit
          have HFB := Lib.hid hfb
          have HFIT := Lib.hid hfit
          clear hfb hfit
          go_wp2_with fail
          refine HFIT.out.mono ?_
          rintro e w2 ⟨rfl, hw2⟩
          have hb2 : Below w.heap.size w w2 := by obtain ⟨m, rfl⟩ := hw2; exact below_drewN hb m
          have HF2 := Lib.hid (HCF.out.below hb2)
          have hz2 := hb2.size
          clear hw2
          have hbe : Below w2.heap.size w2 (w2.alloc (.cells #[] 3)) := (Below.refl _ _).alloc (Nat.le_refl _) _
          have HE := Lib.hid (ownsRow_empty w2 3 1)
          have HFE := Lib.hid (HF2.out.below hbe)
          have HBE := Lib.hid hbe
          clear hbe
          go_wp2_with (first | (at_builtin; refine wpList_appN rfl (.tmp 41) (.tmp 42) 24 rfl w2.heap.size 3 _ 1 8 Try.elemInt _ 0 [] rfl HE.out af f.length cf (ints (nats f)) rfl HNIL.out (by omega) HFE.out (ints_one _) (by unfold maxLen; omega) (by omega) (by simp) ?_; intro a3 c3 w3 p1 p2 p3; simp only [Nat.zero_add, List.nil_append] at p1; have hz3 := p2.size) | (at_builtin; refine wpList_app1 rfl (.tmp 43) (.tmp 45) 24 rfl w2.heap.size 3 _ 1 8 Try.elemInt _ f.length (ints (nats f)) _ _ _ rfl rfl rfl p1 (by rfl) (by simp [Value.oneCell']) (by unfold maxLen; omega) (by omega) (by simp at hz3; omega) ?_; intro g4 c4 w4 r1 r2 r3 r4 r5 r6))
          have hb4 : Below w.heap.size w w4 := hb2.trans (((HBE.out.trans p2).trans r2).mono hz2)
          have hz4 := hb4.size
          have ho4 : w4.ownsRow base 3 1 (.slice (some ⟨g4, 0, none⟩) (f.length + 1) c4) (f.length + 1) (ints (nats (f ++ [k]))) := by
            rw [nats_snoc, ints_append]; exact ownsRow_rebase r1 (by omega)
          have hih := IH.out (f ++ [k]) w4 ad (some ⟨g4, 0, none⟩) c c4 (by rw [List.length_append, List.length_singleton, ← HLEN.out]; omega) (HIN.out.snoc hlt) (HG.out.snoc HFB.out) (by omega) (HC.out.below hb4)
            (by rw [List.length_append, List.length_singleton]; exact ho4)
          rw [List.length_append, List.length_singleton] at hih
          have hto : perTo ts A B n f (k + 1) = perF ts A B n (f ++ [k]) := by rw [perTo_yes HFB.out, HNONE.out, List.nil_append]
          have HTO := Lib.hid hto
          refine hih.mono ?_
          clear hih ho4 hto r1
          by_cases hs : someOf (perF ts A B n (f ++ [k])) = true
          · rw [hs]
            have hfst := first_prefix (perTo_mono (ts := ts) (A := A) (B := B) (n := n) (f := f) (show k + 1 ≤ ts.length by omega)) (by rw [HTO.out]; exact hs)
            rw [perTo_all, HTO.out] at hfst
            have HFST := Lib.hid hfst
            clear hs hfst
            rintro e w5 ⟨a5, c5, x5, rfl, hx5, ho5, hb5⟩
            have HO5 := Lib.hid ho5
            have HX5 := Lib.hid hx5
            clear ho5 hx5
            go_wp2
            go_ret2
            rw [HFST.out.1, HFST.out.2]
            exact ⟨a5, c5, x5, rfl, (fun _ => HX5.out trivial), HO5.out, hb4.trans (hb5.mono hb4.size)⟩
          · have hs' : someOf (perF ts A B n (f ++ [k])) = false := by simpa using hs
            rw [hs']
            have HS := Lib.hid hs'
            clear hs hs'
            rintro e w5 ⟨a5, c5, x5, rfl, _, _, hb5⟩
            go_wp2
            go_roundw
            case rel =>
              refine ⟨k + 1, by omega, by go_num, ?_, hb4.trans (hb5.mono hb4.size)⟩
              rw [HTO.out]
              have := HS.out
              unfold someOf at this
              simpa using this
            case measure => simp [intOf]; omega
        · have hfb' : fitsB ts A f k = false := by simpa using hfb
          rw [hfb'] at hfit
          have HFB := Lib.hid hfb'
          have HFIT := Lib.hid hfit
          clear hfb hfb' hfit
          go_wp2_with fail
          refine HFIT.out.mono ?_
          rintro e w2 ⟨rfl, hw2⟩
          have hb2 : Below w.heap.size w w2 := by obtain ⟨m, rfl⟩ := hw2; exact below_drewN hb m
          clear hw2
          go_wp2
          go_roundw
          case rel => exact ⟨k + 1, by omega, by go_num, by rw [perTo_no HFB.out]; exact HNONE.out, hb2⟩
          case measure => simp [intOf]; omega
      · obtain rfl : k = ts.length := by omega
        have e0 : perF ts A B (n + 1) f = [] := by rw [← perTo_all]; exact HNONE.out
        have E0 := Lib.hid e0
        have HE := Lib.hid (ownsRow_rebase (ownsRow_empty wr 3 1) (show base ≤ wr.heap.size by omega))
        clear e0
        go_wp2
        go_ret2
        rw [E0.out]
        exact ⟨_, _, [], rfl, (fun h => absurd h (by simp [someOf])), HE.out, hb.alloc hb.size _⟩
end Go.Proofs.Ytjklclegkjnegaa
