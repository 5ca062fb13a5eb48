/- The law ChallengeTokens: its walk. -/
import Derived.Test.YtgjgofjabdjclaaDoorTk9m
namespace Go.Proofs.YtgjgofjabdjclaaDoor
open Go Go.RowKit Gf Sha

set_option maxRecDepth 100000 in
set_option maxHeartbeats 8000000 in
theorem tokens_walk (Kx : Ky) (s : List UInt8) (i : Int) (A : Option Addr) (n c : Nat) (d : List UInt8) (f k : Int) (nl : List UInt8) (w : World) (hT : Tabs w) (hd : BS w A n c d) :
    Calls Tryd.prog 7 #[Kx.val, .agg #[.string (strB s), .int .i64 i], .slice A n c, .int .i64 f, .int .i64 k, .string (strB nl)] w fun e w' => e = .returned (.bool true) ∧ Below w.heap.size w w' := by
  have HT := Lib.hid hT
  have HD := Lib.hid hd
  clear hT hd
  by_cases h6 : (6 : Int) < k ∧ k ≤ 256
  · have d6 : decide ((6 : Int) < k) = true := decide_eq_true h6.1
    have d7 : decide (k ≤ 256) = true := decide_eq_true h6.2
    clear h6
    go_enter Tryd.func7, Tryd.ntmps7
    go_wp2_with (first
      | ((with_reducible show wpList _ _ _ (⟨some 6, _, _, _, _, _⟩ :: _) _ _); refine wpList_box _ rfl 29 (.tmp 0) rfl Kx.cells rfl ?_; intro wa a1 a2 a3; have HGa := Lib.hid a1; have HBa := Lib.hid a2; clear a1 a2 a3)
      | ((with_reducible show wpList _ _ _ (⟨some 7, _, _, _, _, _⟩ :: _) _ _); refine wpList_box _ rfl 33 (.tmp 1) rfl [.string (strB s), .int .i64 i] rfl ?_; intro wb a1 a2 a3; have HPb := Lib.hid a1; have HGb := Lib.hid (HGa.out.kept a2); have HBb := Lib.hid (below_then HBa.out (a2.mono (Nat.le_refl _))); clear a1 a2 a3)
      | (go_at_call 12; (with_reducible show Calls _ _ _ wb _); refine (awake_any wb (HT.out.kept HBb.out)).mono ?_; rintro e w1 ⟨rfl, b1⟩; have HB1 := Lib.hid (below_then HBb.out b1); have HG1 := Lib.hid (HGb.out.kept b1); have HP1 := Lib.hid (HPb.out.kept b1); have q0 := HG1.out.get (j := 0) rfl; have q1 := HG1.out.get (j := 1) rfl; have q2 := HG1.out.get (j := 2) rfl; have q3 := HG1.out.get (j := 3) rfl; have q4 := HG1.out.get (j := 4) rfl; have p0 := HP1.out.get (j := 0) rfl; have p1 := HP1.out.get (j := 1) rfl; clear b1)
      | (go_at_call 28; refine (small_any Kx s i A n c w1).mono ?_; rintro e w2 ⟨b, rfl, b1⟩; have HB2 := Lib.hid (below_then HB1.out b1); have HG2 := Lib.hid (HG1.out.kept b1); have HP2 := Lib.hid (HP1.out.kept b1); clear b1 q0 q1 q2 q3 q4 p0 p1; cases b)
      | (go_at_call 12; refine (awake_any w2 (HT.out.kept HB2.out)).mono ?_; rintro e w3 ⟨rfl, b1⟩; have HB3 := Lib.hid (below_then HB2.out b1); clear b1))
    all_goals (go_ret; exact ⟨rfl, HB3.out⟩)
  · by_cases h64 : (64 : Int) < ((strB nl).size : Int)
    · have d64 : decide ((64 : Int) < ((strB nl).size : Int)) = true := decide_eq_true h64
      clear h64
      by_cases h7 : (6 : Int) < k
      · have d6 : decide ((6 : Int) < k) = true := decide_eq_true h7
        have d7 : decide (k ≤ 256) = false := decide_eq_false (by omega)
        clear h6 h7
        go_enter Tryd.func7, Tryd.ntmps7
        go_wp2_with (first
          | ((with_reducible show wpList _ _ _ (⟨some 6, _, _, _, _, _⟩ :: _) _ _); refine wpList_box _ rfl 29 (.tmp 0) rfl Kx.cells rfl ?_; intro wa a1 a2 a3; have HGa := Lib.hid a1; have HBa := Lib.hid a2; clear a1 a2 a3)
          | ((with_reducible show wpList _ _ _ (⟨some 7, _, _, _, _, _⟩ :: _) _ _); refine wpList_box _ rfl 33 (.tmp 1) rfl [.string (strB s), .int .i64 i] rfl ?_; intro wb a1 a2 a3; have HPb := Lib.hid a1; have HGb := Lib.hid (HGa.out.kept a2); have HBb := Lib.hid (below_then HBa.out (a2.mono (Nat.le_refl _))); clear a1 a2 a3)
          | (go_at_call 12; (with_reducible show Calls _ _ _ wb _); refine (awake_any wb (HT.out.kept HBb.out)).mono ?_; rintro e w1 ⟨rfl, b1⟩; have HB1 := Lib.hid (below_then HBb.out b1); have HG1 := Lib.hid (HGb.out.kept b1); have HP1 := Lib.hid (HPb.out.kept b1); have q0 := HG1.out.get (j := 0) rfl; have q1 := HG1.out.get (j := 1) rfl; have q2 := HG1.out.get (j := 2) rfl; have q3 := HG1.out.get (j := 3) rfl; have q4 := HG1.out.get (j := 4) rfl; have p0 := HP1.out.get (j := 0) rfl; have p1 := HP1.out.get (j := 1) rfl; clear b1)
          | (go_at_call 28; refine (small_any Kx s i A n c w1).mono ?_; rintro e w2 ⟨b, rfl, b1⟩; have HB2 := Lib.hid (below_then HB1.out b1); have HG2 := Lib.hid (HG1.out.kept b1); have HP2 := Lib.hid (HP1.out.kept b1); clear b1 q0 q1 q2 q3 q4 p0 p1; cases b)
          | (go_at_call 12; refine (awake_any w2 (HT.out.kept HB2.out)).mono ?_; rintro e w3 ⟨rfl, b1⟩; have HB3 := Lib.hid (below_then HB2.out b1); clear b1))
        all_goals (go_ret; exact ⟨rfl, HB3.out⟩)
      · have d6 : decide ((6 : Int) < k) = false := decide_eq_false h7
        clear h6 h7
        go_enter Tryd.func7, Tryd.ntmps7
        go_wp2_with (first
          | ((with_reducible show wpList _ _ _ (⟨some 6, _, _, _, _, _⟩ :: _) _ _); refine wpList_box _ rfl 29 (.tmp 0) rfl Kx.cells rfl ?_; intro wa a1 a2 a3; have HGa := Lib.hid a1; have HBa := Lib.hid a2; clear a1 a2 a3)
          | ((with_reducible show wpList _ _ _ (⟨some 7, _, _, _, _, _⟩ :: _) _ _); refine wpList_box _ rfl 33 (.tmp 1) rfl [.string (strB s), .int .i64 i] rfl ?_; intro wb a1 a2 a3; have HPb := Lib.hid a1; have HGb := Lib.hid (HGa.out.kept a2); have HBb := Lib.hid (below_then HBa.out (a2.mono (Nat.le_refl _))); clear a1 a2 a3)
          | (go_at_call 12; (with_reducible show Calls _ _ _ wb _); refine (awake_any wb (HT.out.kept HBb.out)).mono ?_; rintro e w1 ⟨rfl, b1⟩; have HB1 := Lib.hid (below_then HBb.out b1); have HG1 := Lib.hid (HGb.out.kept b1); have HP1 := Lib.hid (HPb.out.kept b1); have q0 := HG1.out.get (j := 0) rfl; have q1 := HG1.out.get (j := 1) rfl; have q2 := HG1.out.get (j := 2) rfl; have q3 := HG1.out.get (j := 3) rfl; have q4 := HG1.out.get (j := 4) rfl; have p0 := HP1.out.get (j := 0) rfl; have p1 := HP1.out.get (j := 1) rfl; clear b1)
          | (go_at_call 28; refine (small_any Kx s i A n c w1).mono ?_; rintro e w2 ⟨b, rfl, b1⟩; have HB2 := Lib.hid (below_then HB1.out b1); have HG2 := Lib.hid (HG1.out.kept b1); have HP2 := Lib.hid (HP1.out.kept b1); clear b1 q0 q1 q2 q3 q4 p0 p1; cases b)
          | (go_at_call 12; refine (awake_any w2 (HT.out.kept HB2.out)).mono ?_; rintro e w3 ⟨rfl, b1⟩; have HB3 := Lib.hid (below_then HB2.out b1); clear b1))
        all_goals (go_ret; exact ⟨rfl, HB3.out⟩)
    · have d64 : decide ((64 : Int) < ((strB nl).size : Int)) = false := decide_eq_false h64
      clear h64
      by_cases h7 : (6 : Int) < k
      · have d6 : decide ((6 : Int) < k) = true := decide_eq_true h7
        have d7 : decide (k ≤ 256) = false := decide_eq_false (by omega)
        clear h6 h7
        obtain ⟨a, ha⟩ : ∃ a, a = nonV Kx s i f := ⟨_, rfl⟩
        obtain ⟨ea, hea⟩ : ∃ a, a = errV (nonB Kx s i f) := ⟨_, rfl⟩
        obtain ⟨cc, hcc⟩ : ∃ a, a = ansV nl d n := ⟨_, rfl⟩
        obtain ⟨ec, hec⟩ : ∃ a, a = errV (ansB nl n) := ⟨_, rfl⟩
        obtain ⟨L, hL⟩ : ∃ a, a = tksV Kx s d i n f k := ⟨_, rfl⟩
        obtain ⟨eL, heL⟩ : ∃ a, a = errV (tksB Kx s i n f k) := ⟨_, rfl⟩
        have HA := Lib.hid (And.intro ha hea)
        have HC := Lib.hid (And.intro hcc hec)
        have HL := Lib.hid (And.intro hL heL)
        clear ha hea hcc hec hL heL
        have e1 : ((strB a).toList == (strB a).toList) = true := by rw [strB_eq, decide_eq_true rfl]
        have e2 : ((strB cc).toList == (strB cc).toList) = true := by rw [strB_eq, decide_eq_true rfl]
        go_enter Tryd.func7, Tryd.ntmps7
        go_wp2_with (first
          | ((with_reducible show wpList _ _ _ (⟨some 6, _, _, _, _, _⟩ :: _) _ _); refine wpList_box _ rfl 29 (.tmp 0) rfl Kx.cells rfl ?_; intro wa a1 a2 a3; have HGa := Lib.hid a1; have HBa := Lib.hid a2; clear a1 a2 a3)
          | ((with_reducible show wpList _ _ _ (⟨some 7, _, _, _, _, _⟩ :: _) _ _); refine wpList_box _ rfl 33 (.tmp 1) rfl [.string (strB s), .int .i64 i] rfl ?_; intro wb a1 a2 a3; have HPb := Lib.hid a1; have HGb := Lib.hid (HGa.out.kept a2); have HBb := Lib.hid (below_then HBa.out (a2.mono (Nat.le_refl _))); clear a1 a2 a3)
          | (go_at_call 12; (with_reducible show Calls _ _ _ wb _); refine (awake_any wb (HT.out.kept HBb.out)).mono ?_; rintro e w1 ⟨rfl, b1⟩; have HB1 := Lib.hid (below_then HBb.out b1); have HG1 := Lib.hid (HGb.out.kept b1); have HP1 := Lib.hid (HPb.out.kept b1); have q0 := HG1.out.get (j := 0) rfl; have q1 := HG1.out.get (j := 1) rfl; have q2 := HG1.out.get (j := 2) rfl; have q3 := HG1.out.get (j := 3) rfl; have q4 := HG1.out.get (j := 4) rfl; have p0 := HP1.out.get (j := 0) rfl; have p1 := HP1.out.get (j := 1) rfl; clear b1)
          | (go_at_call 28; refine (small_any Kx s i A n c w1).mono ?_; rintro e w2 ⟨b, rfl, b1⟩; have HB2 := Lib.hid (below_then HB1.out b1); have HG2 := Lib.hid (HG1.out.kept b1); have HP2 := Lib.hid (HP1.out.kept b1); clear b1 q0 q1 q2 q3 q4 p0 p1; cases b)
          | (go_at_call 12; refine (awake_any w2 (HT.out.kept HB2.out)).mono ?_; rintro e w3 ⟨rfl, b1⟩; have HB3 := Lib.hid (below_then HB2.out b1); clear b1)
          | ((with_reducible show wpList _ _ _ (⟨some 49, _, _, _, _, _⟩ :: _) _ _); refine wpList_loadv _ rfl 29 (.tmp 6) rfl 5 (by kernel_rfl) w.heap.size 0 Kx.cells rfl (BL.all HG2.out) rfl ?_)
          | ((with_reducible show wpList _ _ _ (⟨some 50, _, _, _, _, _⟩ :: _) _ _); refine wpList_loadv _ rfl 33 (.tmp 7) rfl 2 (by kernel_rfl) wa.heap.size 0 [.string (strB s), .int .i64 i] rfl (BL.all HP2.out) rfl ?_)
          | (go_at_call 29; refine (nonce_all Kx s i f w2 (HT.out.kept HB2.out)).mono ?_; rintro e w4 ⟨rfl, b1⟩; rw [← HA.out.1, ← HA.out.2]; have HB4 := Lib.hid (below_then HB2.out b1); have HG4 := Lib.hid (HG2.out.kept b1); have HP4 := Lib.hid (HP2.out.kept b1); clear b1)
          | ((with_reducible show wpList _ _ _ (⟨some 56, _, _, _, _, _⟩ :: _) _ _); refine wpList_loadv _ rfl 29 (.tmp 6) rfl 5 (by kernel_rfl) w.heap.size 0 Kx.cells rfl (BL.all HG4.out) rfl ?_)
          | ((with_reducible show wpList _ _ _ (⟨some 57, _, _, _, _, _⟩ :: _) _ _); refine wpList_loadv _ rfl 33 (.tmp 7) rfl 2 (by kernel_rfl) wa.heap.size 0 [.string (strB s), .int .i64 i] rfl (BL.all HP4.out) rfl ?_)
          | (go_at_call 30; refine (rnonce_all Kx s i f w4).mono ?_; rintro e w5 ⟨rfl, b1⟩; rw [← HA.out.1, ← HA.out.2]; have HB5 := Lib.hid (below_then HB4.out b1); have HG5 := Lib.hid (HG4.out.kept b1); have HP5 := Lib.hid (HP4.out.kept b1); clear b1)
          | (go_at_call 16; refine (answer_all nl A n c d w5 (HD.out.kept HB5.out) (HT.out.kept HB5.out)).mono ?_; rintro e w6 ⟨rfl, b1⟩; rw [← HC.out.1, ← HC.out.2]; have HB6 := Lib.hid (below_then HB5.out b1); have HG6 := Lib.hid (HG5.out.kept b1); have HP6 := Lib.hid (HP5.out.kept b1); clear b1)
          | (go_at_call 31; refine (ranswer_all nl A n c d w6 (HD.out.kept HB6.out)).mono ?_; rintro e w7 ⟨rfl, b1⟩; rw [← HC.out.1, ← HC.out.2]; have HB7 := Lib.hid (below_then HB6.out b1); have HG7 := Lib.hid (HG6.out.kept b1); have HP7 := Lib.hid (HP6.out.kept b1); clear b1)
          | ((with_reducible show wpList _ _ _ (⟨some 75, _, _, _, _, _⟩ :: _) _ _); refine wpList_loadv _ rfl 29 (.tmp 6) rfl 5 (by kernel_rfl) w.heap.size 0 Kx.cells rfl (BL.all HG7.out) rfl ?_)
          | ((with_reducible show wpList _ _ _ (⟨some 76, _, _, _, _, _⟩ :: _) _ _); refine wpList_loadv _ rfl 33 (.tmp 7) rfl 2 (by kernel_rfl) wa.heap.size 0 [.string (strB s), .int .i64 i] rfl (BL.all HP7.out) rfl ?_)
          | (go_at_call 13; refine (tokens_all Kx s d i n c f k A w7 (HD.out.kept HB7.out) (HT.out.kept HB7.out)).mono ?_; rintro e w8 ⟨v8, n8, rfl, l8, m8, r8, b1⟩; rw [← HL.out.1] at l8 r8; rw [← HL.out.2]; have HN8 := Lib.hid (And.intro l8 m8); have HR8 := Lib.hid r8; have HB8 := Lib.hid (below_then HB7.out b1); have HG8 := Lib.hid (HG7.out.kept b1); have HP8 := Lib.hid (HP7.out.kept b1); clear b1 l8 m8 r8)
          | ((with_reducible show wpList _ _ _ (⟨some 84, _, _, _, _, _⟩ :: _) _ _); refine wpList_loadv _ rfl 29 (.tmp 6) rfl 5 (by kernel_rfl) w.heap.size 0 Kx.cells rfl (BL.all HG8.out) rfl ?_)
          | ((with_reducible show wpList _ _ _ (⟨some 85, _, _, _, _, _⟩ :: _) _ _); refine wpList_loadv _ rfl 33 (.tmp 7) rfl 2 (by kernel_rfl) wa.heap.size 0 [.string (strB s), .int .i64 i] rfl (BL.all HP8.out) rfl ?_)
          | (go_at_call 32; refine (rtokens_all Kx s d i n c f k A w8 (HD.out.kept HB8.out)).mono ?_; rintro e w9 ⟨v9, n9, rfl, l9, m9, r9, b1⟩; rw [← HL.out.1] at l9 r9; rw [← HL.out.2]; obtain rfl := HN8.out.1.symm.trans l9; have HR9 := Lib.hid r9; have HQ9 := Lib.hid (HR8.out.kept b1); have HB9 := Lib.hid (below_then HB8.out b1); clear b1 m9 r9)
          | (go_at_call 33; refine (same_any v8 v9 n8 L w9 HN8.out.1 HN8.out.2 HQ9.out HR9.out).mono ?_; rintro e w10 ⟨rfl, b1⟩; have HB10 := Lib.hid (below_then HB9.out b1); clear b1))
        · go_ret; exact ⟨rfl, HB3.out⟩
        · go_ret; exact ⟨rfl, HB10.out⟩
      · have d6 : decide ((6 : Int) < k) = false := decide_eq_false h7
        clear h6 h7
        obtain ⟨a, ha⟩ : ∃ a, a = nonV Kx s i f := ⟨_, rfl⟩
        obtain ⟨ea, hea⟩ : ∃ a, a = errV (nonB Kx s i f) := ⟨_, rfl⟩
        obtain ⟨cc, hcc⟩ : ∃ a, a = ansV nl d n := ⟨_, rfl⟩
        obtain ⟨ec, hec⟩ : ∃ a, a = errV (ansB nl n) := ⟨_, rfl⟩
        obtain ⟨L, hL⟩ : ∃ a, a = tksV Kx s d i n f k := ⟨_, rfl⟩
        obtain ⟨eL, heL⟩ : ∃ a, a = errV (tksB Kx s i n f k) := ⟨_, rfl⟩
        have HA := Lib.hid (And.intro ha hea)
        have HC := Lib.hid (And.intro hcc hec)
        have HL := Lib.hid (And.intro hL heL)
        clear ha hea hcc hec hL heL
        have e1 : ((strB a).toList == (strB a).toList) = true := by rw [strB_eq, decide_eq_true rfl]
        have e2 : ((strB cc).toList == (strB cc).toList) = true := by rw [strB_eq, decide_eq_true rfl]
        go_enter Tryd.func7, Tryd.ntmps7
        go_wp2_with (first
          | ((with_reducible show wpList _ _ _ (⟨some 6, _, _, _, _, _⟩ :: _) _ _); refine wpList_box _ rfl 29 (.tmp 0) rfl Kx.cells rfl ?_; intro wa a1 a2 a3; have HGa := Lib.hid a1; have HBa := Lib.hid a2; clear a1 a2 a3)
          | ((with_reducible show wpList _ _ _ (⟨some 7, _, _, _, _, _⟩ :: _) _ _); refine wpList_box _ rfl 33 (.tmp 1) rfl [.string (strB s), .int .i64 i] rfl ?_; intro wb a1 a2 a3; have HPb := Lib.hid a1; have HGb := Lib.hid (HGa.out.kept a2); have HBb := Lib.hid (below_then HBa.out (a2.mono (Nat.le_refl _))); clear a1 a2 a3)
          | (go_at_call 12; (with_reducible show Calls _ _ _ wb _); refine (awake_any wb (HT.out.kept HBb.out)).mono ?_; rintro e w1 ⟨rfl, b1⟩; have HB1 := Lib.hid (below_then HBb.out b1); have HG1 := Lib.hid (HGb.out.kept b1); have HP1 := Lib.hid (HPb.out.kept b1); have q0 := HG1.out.get (j := 0) rfl; have q1 := HG1.out.get (j := 1) rfl; have q2 := HG1.out.get (j := 2) rfl; have q3 := HG1.out.get (j := 3) rfl; have q4 := HG1.out.get (j := 4) rfl; have p0 := HP1.out.get (j := 0) rfl; have p1 := HP1.out.get (j := 1) rfl; clear b1)
          | (go_at_call 28; refine (small_any Kx s i A n c w1).mono ?_; rintro e w2 ⟨b, rfl, b1⟩; have HB2 := Lib.hid (below_then HB1.out b1); have HG2 := Lib.hid (HG1.out.kept b1); have HP2 := Lib.hid (HP1.out.kept b1); clear b1 q0 q1 q2 q3 q4 p0 p1; cases b)
          | (go_at_call 12; refine (awake_any w2 (HT.out.kept HB2.out)).mono ?_; rintro e w3 ⟨rfl, b1⟩; have HB3 := Lib.hid (below_then HB2.out b1); clear b1)
          | ((with_reducible show wpList _ _ _ (⟨some 49, _, _, _, _, _⟩ :: _) _ _); refine wpList_loadv _ rfl 29 (.tmp 6) rfl 5 (by kernel_rfl) w.heap.size 0 Kx.cells rfl (BL.all HG2.out) rfl ?_)
          | ((with_reducible show wpList _ _ _ (⟨some 50, _, _, _, _, _⟩ :: _) _ _); refine wpList_loadv _ rfl 33 (.tmp 7) rfl 2 (by kernel_rfl) wa.heap.size 0 [.string (strB s), .int .i64 i] rfl (BL.all HP2.out) rfl ?_)
          | (go_at_call 29; refine (nonce_all Kx s i f w2 (HT.out.kept HB2.out)).mono ?_; rintro e w4 ⟨rfl, b1⟩; rw [← HA.out.1, ← HA.out.2]; have HB4 := Lib.hid (below_then HB2.out b1); have HG4 := Lib.hid (HG2.out.kept b1); have HP4 := Lib.hid (HP2.out.kept b1); clear b1)
          | ((with_reducible show wpList _ _ _ (⟨some 56, _, _, _, _, _⟩ :: _) _ _); refine wpList_loadv _ rfl 29 (.tmp 6) rfl 5 (by kernel_rfl) w.heap.size 0 Kx.cells rfl (BL.all HG4.out) rfl ?_)
          | ((with_reducible show wpList _ _ _ (⟨some 57, _, _, _, _, _⟩ :: _) _ _); refine wpList_loadv _ rfl 33 (.tmp 7) rfl 2 (by kernel_rfl) wa.heap.size 0 [.string (strB s), .int .i64 i] rfl (BL.all HP4.out) rfl ?_)
          | (go_at_call 30; refine (rnonce_all Kx s i f w4).mono ?_; rintro e w5 ⟨rfl, b1⟩; rw [← HA.out.1, ← HA.out.2]; have HB5 := Lib.hid (below_then HB4.out b1); have HG5 := Lib.hid (HG4.out.kept b1); have HP5 := Lib.hid (HP4.out.kept b1); clear b1)
          | (go_at_call 16; refine (answer_all nl A n c d w5 (HD.out.kept HB5.out) (HT.out.kept HB5.out)).mono ?_; rintro e w6 ⟨rfl, b1⟩; rw [← HC.out.1, ← HC.out.2]; have HB6 := Lib.hid (below_then HB5.out b1); have HG6 := Lib.hid (HG5.out.kept b1); have HP6 := Lib.hid (HP5.out.kept b1); clear b1)
          | (go_at_call 31; refine (ranswer_all nl A n c d w6 (HD.out.kept HB6.out)).mono ?_; rintro e w7 ⟨rfl, b1⟩; rw [← HC.out.1, ← HC.out.2]; have HB7 := Lib.hid (below_then HB6.out b1); have HG7 := Lib.hid (HG6.out.kept b1); have HP7 := Lib.hid (HP6.out.kept b1); clear b1)
          | ((with_reducible show wpList _ _ _ (⟨some 75, _, _, _, _, _⟩ :: _) _ _); refine wpList_loadv _ rfl 29 (.tmp 6) rfl 5 (by kernel_rfl) w.heap.size 0 Kx.cells rfl (BL.all HG7.out) rfl ?_)
          | ((with_reducible show wpList _ _ _ (⟨some 76, _, _, _, _, _⟩ :: _) _ _); refine wpList_loadv _ rfl 33 (.tmp 7) rfl 2 (by kernel_rfl) wa.heap.size 0 [.string (strB s), .int .i64 i] rfl (BL.all HP7.out) rfl ?_)
          | (go_at_call 13; refine (tokens_all Kx s d i n c f k A w7 (HD.out.kept HB7.out) (HT.out.kept HB7.out)).mono ?_; rintro e w8 ⟨v8, n8, rfl, l8, m8, r8, b1⟩; rw [← HL.out.1] at l8 r8; rw [← HL.out.2]; have HN8 := Lib.hid (And.intro l8 m8); have HR8 := Lib.hid r8; have HB8 := Lib.hid (below_then HB7.out b1); have HG8 := Lib.hid (HG7.out.kept b1); have HP8 := Lib.hid (HP7.out.kept b1); clear b1 l8 m8 r8)
          | ((with_reducible show wpList _ _ _ (⟨some 84, _, _, _, _, _⟩ :: _) _ _); refine wpList_loadv _ rfl 29 (.tmp 6) rfl 5 (by kernel_rfl) w.heap.size 0 Kx.cells rfl (BL.all HG8.out) rfl ?_)
          | ((with_reducible show wpList _ _ _ (⟨some 85, _, _, _, _, _⟩ :: _) _ _); refine wpList_loadv _ rfl 33 (.tmp 7) rfl 2 (by kernel_rfl) wa.heap.size 0 [.string (strB s), .int .i64 i] rfl (BL.all HP8.out) rfl ?_)
          | (go_at_call 32; refine (rtokens_all Kx s d i n c f k A w8 (HD.out.kept HB8.out)).mono ?_; rintro e w9 ⟨v9, n9, rfl, l9, m9, r9, b1⟩; rw [← HL.out.1] at l9 r9; rw [← HL.out.2]; obtain rfl := HN8.out.1.symm.trans l9; have HR9 := Lib.hid r9; have HQ9 := Lib.hid (HR8.out.kept b1); have HB9 := Lib.hid (below_then HB8.out b1); clear b1 m9 r9)
          | (go_at_call 33; refine (same_any v8 v9 n8 L w9 HN8.out.1 HN8.out.2 HQ9.out HR9.out).mono ?_; rintro e w10 ⟨rfl, b1⟩; have HB10 := Lib.hid (below_then HB9.out b1); clear b1))
        · go_ret; exact ⟨rfl, HB3.out⟩
        · go_ret; exact ⟨rfl, HB10.out⟩
end Go.Proofs.YtgjgofjabdjclaaDoor
