/- Visit: the walk of the program's wangFills, over any visitor: what it visits, in which order, when it stops. -/
import Derived.Test.YtjklclegkjnegaaSearch0
import Derived.Test.YtjklclegkjnegaaAllBase
namespace Go.Proofs.Ytjklclegkjnegaa
open Go.RowKit

/-- What has been visited behind L, and whether the visitor never said stop. -/
def visit (cont : List (List Nat) → Bool) : List (List Nat) → List (List Nat) → List (List Nat) × Bool
  | [], L => (L, true)
  | f :: Fs, L => if cont (L ++ [f]) = true then visit cont Fs (L ++ [f]) else (L ++ [f], false)
theorem visit_append (cont : List (List Nat) → Bool) : ∀ (Fs Gs L : List (List Nat)), visit cont (Fs ++ Gs) L = if (visit cont Fs L).2 = true then visit cont Gs (visit cont Fs L).1 else visit cont Fs L := by
  intro Fs
  induction Fs with
  | nil => intro Gs L; simp [visit]
  | cons f Fs ih =>
    intro Gs L
    by_cases h : cont (L ++ [f]) = true
    · have e1 : visit cont (f :: Fs ++ Gs) L = visit cont (Fs ++ Gs) (L ++ [f]) := by rw [List.cons_append, visit, if_pos h]
      have e2 : visit cont (f :: Fs) L = visit cont Fs (L ++ [f]) := by rw [visit, if_pos h]
      rw [e1, e2, ih]
    · have e1 : visit cont (f :: Fs ++ Gs) L = (L ++ [f], false) := by rw [List.cons_append, visit, if_neg h]
      have e2 : visit cont (f :: Fs) L = (L ++ [f], false) := by rw [visit, if_neg h]
      rw [e1, e2]
      simp
theorem visit_stopped {cont : List (List Nat) → Bool} {Fs Gs L : List (List Nat)} (hp : Fs <+: Gs) (h : (visit cont Fs L).2 = false) : visit cont Gs L = visit cont Fs L := by
  obtain ⟨R, rfl⟩ := hp
  rw [visit_append, h]
  simp

theorem Touched.of_below {lo hi : Nat} {w w' : World} (h : Below w.heap.size w w') : Touched lo hi w w' := ⟨h.os, h.tape, h.output, h.size, fun k hk _ => h.block k hk⟩
theorem ownsRow_touched {w w' : World} {lo hi base e size n : Nat} {v : Value} {xs : List Value} (h : w.ownsRow base e size v n xs) (ht : Touched lo hi w w') (hb : hi ≤ base) : w'.ownsRow base e size v n xs := by
  refine ⟨h.1, ?_⟩
  rcases h.2 with q2 | ⟨g, c, cur, q1, q2, q3, r⟩
  · exact .inl q2
  · refine .inr ⟨g, c, cur, q1, q2, ?_, r⟩
    rw [ht.block g (Array.getElem?_eq_some_iff.1 q3).1 (by omega)]
    exact q3
theorem ownsRow_nil_cap {w : World} {base e size n m cap : Nat} {ad : Option Addr} {xs : List Value} (h : w.ownsRow base e size (.slice ad m cap) n xs) : ad = none → cap = 0 := by
  intro hn
  rcases h.2 with ⟨h1, _⟩ | ⟨g, c, cur, h1, _⟩
  · cases h1; rfl
  · cases h1; cases hn

set_option maxRecDepth 100000 in
set_option maxHeartbeats 1600000 in
theorem wangFills_gen (K : FuncId) (caps : Array Value) (hi A B : Nat) (R0 : World → World → Prop) (Fr : List (List Nat) → World → Value → Prop) (Go0 : List (List Nat) → Prop) (ad : Option Addr) (c : Nat) (ts : List Tile) (I : List (List Nat) → World → Prop) (cont : List (List Nat) → Bool)
    (hn : ts.length ≤ 1048576) (hA : 1 ≤ A ∧ A ≤ 4) (hB : 1 ≤ B ∧ B ≤ 4) (hK : ∀ (args : Array Value) (w : World), Sem.run Try.prog (callFunc K args) w = .ok (.enter K args) w)
    (hRb : ∀ w w', Below w.heap.size w w' → R0 w w') (hRt : ∀ a b c, R0 a b → R0 b c → R0 a c) (hRs : ∀ w w', R0 w w' → w.heap.size ≤ w'.heap.size) (hRo : ∀ (w w' : World) (v : Value) (n : Nat) (xs : List Value), R0 w w' → w.ownsRow hi 3 1 v n xs → w'.ownsRow hi 3 1 v n xs)
    (hGo : ∀ L Fs, Go0 L → (visit cont Fs L).2 = true → Go0 (visit cont Fs L).1)
    (hFr : ∀ (L : List (List Nat)) (w w' : World) (v : Value), I L w → Below w.heap.size w w' → (∀ b, v.ownBlock = some b → w.heap.size ≤ b) → Fr L w' v)
    (hIc : ∀ L w, I L w → CellsAt w ad (wangs ts)) (hIb : ∀ L w w', I L w → Below w.heap.size w w' → I L w')
    (hV : ∀ L f w af cf, Go0 L → I L w → hi ≤ w.heap.size → f.length = A * B → InR ts f → w.ownsRow hi 3 1 (.slice af f.length cf) f.length (ints (nats f)) → Fr L w (.slice af f.length cf) →
      Calls Try.prog K (#[.slice af f.length cf] ++ caps) w fun e w' => e = .returned (.bool (cont (L ++ [f]))) ∧ I (L ++ [f]) w' ∧ R0 w w') :
    ∀ (n : Nat) (f : List Nat) (L : List (List Nat)) (w : World) (af : Option Addr) (cf : Nat), f.length + n = A * B → InR ts f → Go0 L → I L w → hi ≤ w.heap.size → w.ownsRow hi 3 1 (.slice af f.length cf) f.length (ints (nats f)) → Fr L w (.slice af f.length cf) →
      Calls Try.prog 25 #[.slice ad ts.length c, .int .i64 A, .int .i64 B, .slice af f.length cf, .func (.func K) #[] caps] w fun e w' =>
        e = .returned (.bool (visit cont (fillsF ts A n f) L).2) ∧ I (visit cont (fillsF ts A n f) L).1 w' ∧ R0 w w' := by
  obtain ⟨ha1, ha2⟩ := hA
  obtain ⟨hb1, hb2⟩ := hB
  have q0 : A * B ≤ 16 := Nat.mul_le_mul ha2 hb2
  have q1 : 0 ≤ (A : Int) * (B : Int) := by exact Int.mul_nonneg (by omega) (by omega)
  have q2 : (A : Int) * (B : Int) ≤ 16 := by exact_mod_cast q0
  have HIC := Lib.hid hIc
  have HIB := Lib.hid hIb
  have HV := Lib.hid hV
  have HRB := Lib.hid hRb
  have HGP := Lib.hid hGo
  clear hGo
  have HFR := Lib.hid hFr
  clear hFr
  have HRT := Lib.hid hRt
  have HRS := Lib.hid hRs
  have HRO := Lib.hid hRo
  clear hRb hRt hRs hRo
  clear hIc hIb hV
  intro n
  induction n with
  | zero =>
    intro f L w af cf hlen hin hgl hI hhi hown hfr
    have hl : ((f.length : Int) == (A : Int) * (B : Int)) = true := by rw [beq_iff_eq]; exact_mod_cast hlen
    have hcall := HV.out L f w af cf hgl hI hhi hlen hin hown hfr
    have hfl : f.length ≤ 16 := by omega
    have HCALL := Lib.hid hcall
    clear hcall hI hin hown hlen hfr hgl
    go_enter Try.func25, Try.ntmps25
    go_wp2_with fail
    refine HCALL.out.mono ?_
    rintro e w1 ⟨rfl, hI1, ht1⟩
    have e0 : visit cont (fillsF ts A 0 f) L = (L ++ [f], cont (L ++ [f])) := by
      simp only [fillsF, visit]
      cases cont (L ++ [f]) <;> simp
    have E0 := Lib.hid e0
    clear e0
    go_wp2
    go_ret
    rw [E0.out]
    exact ⟨rfl, hI1, ht1⟩
  | succ n ih =>
    intro f L w af cf hlen hin hgl hI hhi hown _
    have hl : ((f.length : Int) == (A : Int) * (B : Int)) = false := by
      rw [beq_eq_false_iff_ne]
      intro h
      have : f.length = A * B := by exact_mod_cast h
      omega
    have hfl : f.length ≤ 16 := by omega
    have IH := Lib.hid ih
    have HIN := Lib.hid hin
    have HGL := Lib.hid hgl
    clear hgl
    have HI := Lib.hid hI
    have HO := Lib.hid hown
    have HLEN := Lib.hid hlen
    have hnl := nats_length f
    have hil := ints_length (nats f)
    clear ih hin hI hown hlen hK
    go_enter Try.func25, Try.ntmps25
    go_wp2_with fail
    go_loopw [24] (fun i wr => ∃ k : Nat, k ≤ ts.length ∧ i = .int .i64 k ∧ (visit cont (fillsTo ts A n f k) L).2 = true ∧ I (visit cont (fillsTo ts A n f k) L).1 wr ∧ R0 w wr) (fun i _ => ts.length - (intOf i).toNat)
    case atStart => exact ⟨0, by omega, rfl, by simp [fillsTo_zero, visit], by simpa [fillsTo_zero, visit] using HI.out, HRB.out _ _ (Below.refl _ _)⟩
    case round =>
      obtain ⟨k, hk, rfl, hgo, hIk, ht⟩ := hrel
      have HGO := Lib.hid hgo
      have HIK := Lib.hid hIk
      have HOW := Lib.hid (HRO.out _ _ _ _ _ ht HO.out)
      have hsz := HRS.out _ _ ht
      clear hgo hIk
      by_cases hlt : k < ts.length
      · have hcopy := copyInts_any af cf (nats f) wr (by omega) (ownsRow_nil_cap HOW.out) (ownsRow_cellsAt HOW.out)
        rw [hnl] at hcopy
        have HCOPY := Lib.hid hcopy
        clear hcopy
        go_wp2_with fail
        refine HCOPY.out.mono ?_
        rintro e w1 ⟨a1, c1, rfl, ho1, hb1⟩
        have HO1 := Lib.hid ho1
        have hz1 := hb1.size
        clear ho1
        go_wp2_with (at_builtin; refine wpList_app1 rfl (.tmp 28) (.tmp 30) 24 rfl wr.heap.size 3 _ 1 8 Try.elemInt _ f.length (ints (nats f)) _ _ _ rfl rfl rfl HO1.out (by rfl) (by simp [Value.oneCell']) (by unfold maxLen; omega) (by omega) (by omega) ?_; intro g2 c2 w2 r1 r2 r3 r4 r5 r6)
        have hb2 : Below wr.heap.size wr w2 := hb1.trans r2
        have ho2 : w2.ownsRow wr.heap.size 3 1 (.slice (some ⟨g2, 0, none⟩) (f.length + 1) c2) (f.length + 1) (ints (nats (f ++ [k]))) := by
          rw [nats_snoc, ints_append]; exact r1
        have hI2 := HIB.out _ _ _ HIK.out hb2
        have hfit := wangFits_any ad (some ⟨g2, 0, none⟩) c c2 ts f A k w2 hn (by omega) ⟨ha1, ha2⟩ hlt HIN.out (HIC.out _ _ hI2) (ownsRow_cellsAt ho2)
        have HO2 := Lib.hid ho2
        have HI2 := Lib.hid hI2
        clear ho2 hI2 r1 r3
        by_cases hfb : fitsB ts A f k = true
        · rw [hfb] at hfit
          have HFB := Lib.hid hfb
          have HFIT := Lib.hid hfit
          clear hfb hfit
          go_wp2_with fail
          refine HFIT.out.mono ?_
          rintro e w3 ⟨rfl, hb3⟩
          have hz2 := hb2.size
          have hz3 := hb3.size
          have hI3 := HIB.out _ _ _ HI2.out hb3
          have ho3 := ownsRow_rebase (ownsRow_far_below HO2.out hb3 (Nat.le_refl _)) (show hi ≤ wr.heap.size by omega)
          have hrec := IH.out (f ++ [k]) (visit cont (fillsTo ts A n f k) L).1 w3 (some ⟨g2, 0, none⟩) c2 (by rw [List.length_append, List.length_singleton, ← HLEN.out]; omega) (HIN.out.snoc hlt) (HGP.out _ _ HGL.out HGO.out) hI3 (by omega)
            (by rw [List.length_append, List.length_singleton]; exact ho3)
            (HFR.out _ wr w3 _ HIK.out (hb2.trans (hb3.mono hb2.size)) (fun b hb => ((ownsRow_rebase HO2.out (Nat.le_refl _)).lt b (by simpa [Value.ownBlock] using hb)).1))
          rw [List.length_append, List.length_singleton] at hrec
          have hv : visit cont (fillsTo ts A n f (k + 1)) L = visit cont (fillsF ts A n (f ++ [k])) (visit cont (fillsTo ts A n f k) L).1 := by
            rw [fillsTo_yes HFB.out, visit_append, if_pos HGO.out]
          have HREC := Lib.hid hrec
          have HVV := Lib.hid hv
          clear hrec hv hI3 ho3
          go_wp2_with fail
          refine HREC.out.mono ?_
          by_cases hb : (visit cont (fillsF ts A n (f ++ [k])) (visit cont (fillsTo ts A n f k) L).1).2 = true
          · rw [hb]
            have HBB := Lib.hid hb
            clear hb
            rintro e w4 ⟨rfl, hI4, ht4⟩
            have HI4 := Lib.hid hI4
            clear hI4
            go_wp2
            go_roundw
            case rel =>
              refine ⟨k + 1, by omega, by go_num, by rw [HVV.out]; exact HBB.out, by rw [HVV.out]; exact HI4.out, HRT.out _ _ _ (HRT.out _ _ _ (HRT.out _ _ _ ht (HRB.out _ _ hb2)) (HRB.out _ _ hb3)) ht4⟩
            case measure => simp [intOf]; omega
          · have hb' : (visit cont (fillsF ts A n (f ++ [k])) (visit cont (fillsTo ts A n f k) L).1).2 = false := by simpa using hb
            rw [hb']
            have HBB := Lib.hid hb'
            clear hb hb'
            rintro e w4 ⟨rfl, hI4, ht4⟩
            have HI4 := Lib.hid hI4
            clear hI4
            have hstop : visit cont (fillsF ts A (n + 1) f) L = visit cont (fillsTo ts A n f (k + 1)) L := by
              rw [← fillsTo_all]
              exact visit_stopped (fillsTo_mono (by omega)) (by rw [HVV.out]; exact HBB.out)
            have HST := Lib.hid hstop
            clear hstop
            go_wp2
            go_ret
            rw [HST.out, HVV.out]
            exact ⟨by rw [HBB.out]; rfl, HI4.out, HRT.out _ _ _ (HRT.out _ _ _ (HRT.out _ _ _ ht (HRB.out _ _ hb2)) (HRB.out _ _ hb3)) ht4⟩
        · have hfb' : fitsB ts A f k = false := by simpa using hfb
          rw [hfb'] at hfit
          have HFB := Lib.hid hfb'
          have HFIT := Lib.hid hfit
          clear hfb hfb' hfit
          go_wp2_with fail
          refine HFIT.out.mono ?_
          rintro e w3 ⟨rfl, hb3⟩
          have hI3 := HIB.out _ _ _ HI2.out hb3
          have HI3 := Lib.hid hI3
          clear hI3
          go_wp2
          go_roundw
          case rel =>
            refine ⟨k + 1, by omega, by go_num, by rw [fillsTo_no HFB.out]; exact HGO.out, by rw [fillsTo_no HFB.out]; exact HI3.out, HRT.out _ _ _ (HRT.out _ _ _ ht (HRB.out _ _ hb2)) (HRB.out _ _ hb3)⟩
          case measure => simp [intOf]; omega
      · obtain rfl : k = ts.length := by omega
        go_wp2
        go_ret
        rw [← fillsTo_all]
        exact ⟨by rw [HGO.out]; rfl, HIK.out, ht⟩

set_option maxRecDepth 100000 in
set_option maxHeartbeats 1600000 in
theorem wangFills_any (K : FuncId) (caps : Array Value) (lo hi A B : Nat) (ad : Option Addr) (c : Nat) (ts : List Tile) (I : List (List Nat) → World → Prop) (cont : List (List Nat) → Bool)
    (hn : ts.length ≤ 1048576) (hA : 1 ≤ A ∧ A ≤ 4) (hB : 1 ≤ B ∧ B ≤ 4) (hK : ∀ (args : Array Value) (w : World), Sem.run Try.prog (callFunc K args) w = .ok (.enter K args) w)
    (hIc : ∀ L w, I L w → CellsAt w ad (wangs ts)) (hIb : ∀ L w w', I L w → Below w.heap.size w w' → I L w')
    (hV : ∀ L f w af cf, I L w → hi ≤ w.heap.size → f.length = A * B → InR ts f → w.ownsRow hi 3 1 (.slice af f.length cf) f.length (ints (nats f)) →
      Calls Try.prog K (#[.slice af f.length cf] ++ caps) w fun e w' => e = .returned (.bool (cont (L ++ [f]))) ∧ I (L ++ [f]) w' ∧ Touched lo hi w w') :
    ∀ (n : Nat) (f : List Nat) (L : List (List Nat)) (w : World) (af : Option Addr) (cf : Nat), f.length + n = A * B → InR ts f → I L w → hi ≤ w.heap.size → w.ownsRow hi 3 1 (.slice af f.length cf) f.length (ints (nats f)) →
      Calls Try.prog 25 #[.slice ad ts.length c, .int .i64 A, .int .i64 B, .slice af f.length cf, .func (.func K) #[] caps] w fun e w' =>
        e = .returned (.bool (visit cont (fillsF ts A n f) L).2) ∧ I (visit cont (fillsF ts A n f) L).1 w' ∧ Touched lo hi w w' := fun n f L w af cf h1 h2 h3 h4 h5 =>
  wangFills_gen K caps hi A B (Touched lo hi) (fun _ _ _ => True) (fun _ => True) ad c ts I cont hn hA hB hK (fun _ _ h => Touched.of_below h) (fun _ _ _ h k => h.trans k) (fun _ _ h => h.size) (fun _ _ _ _ _ h o => ownsRow_touched o h (Nat.le_refl _)) (fun _ _ _ _ => trivial) (fun _ _ _ _ _ _ _ => trivial) hIc hIb (fun L f w af cf _ h1 h2 h3 h4 h5 _ => hV L f w af cf h1 h2 h3 h4 h5) n f L w af cf h1 h2 trivial h3 h4 h5 trivial
theorem CellsAt.lt {w : World} {ad : Option Addr} {ts : List Tile} (h : CellsAt w ad (wangs ts)) : ∀ g off, ad = some ⟨g, off, none⟩ → 0 < ts.length → g < w.heap.size := by
  intro g off hv hn
  obtain ⟨g', off', h1, h2, _⟩ := wang_open h hn
  rw [hv] at h1
  cases h1
  exact h2
end Go.Proofs.Ytjklclegkjnegaa
