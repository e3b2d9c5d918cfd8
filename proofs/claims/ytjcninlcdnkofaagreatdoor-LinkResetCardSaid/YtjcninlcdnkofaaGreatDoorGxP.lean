/- Offers: what may be, highest and lowest bits, tables. -/
import Derived.Test.YtjcninlcdnkofaaGreatDoorGxO
import Derived.Test.YtjcninlcdnkofaaGreatDoorGxC2
noncomputable section
namespace Go.Proofs.YtjcninlcdnkofaaGreatDoor
open Go Gw Go.RowKit
set_option linter.unusedSimpArgs false
set_option linter.unusedVariables false
def noOrc : Orc := fun _ => none
theorem dIs {f : Nat} (h : (D f).isSome = true) : D f = some (dOf f) := dOf_ok h
def dOff : List V → Prop
  | [.agg [.int .i64 _, .int .i64 _, .int .i64 _, .int .i64 _, .int .i64 _]] => True
  | _ => False
def pFine : List V → V
  | [.agg [.int .i64 a, .int .i64 b, .int .i64 c, .int .i64 d, .int .i64 e]] => .agg (fineO ⟨a, b, c, d, e⟩).vs
  | _ => .nilp
def pMayQ : List V → V
  | [.agg [.int .i64 a, .int .i64 b, .int .i64 c, .int .i64 d, .int .i64 e]] => .bool (mayO ⟨a, b, c, d, e⟩)
  | _ => .nilp
def treeFine (o : Gw.Offer) : DT V :=
  .leaf (.agg [.int .i64 (wrapK .i64 (Nat.lor (bitsK .i64 (wrapK .i64 (Nat.land (bitsK .i64 o.baud) (bitsK .i64 15)))) (bitsK .i64 1))), .int .i64 (wrapK .i64 (Nat.lor (bitsK .i64 (wrapK .i64 (Nat.land (bitsK .i64 o.silent) (bitsK .i64 7)))) (bitsK .i64 1))), .int .i64 (if (1 : Int) > (wrapK .i64 (Nat.land (bitsK .i64 o.win) (bitsK .i64 127))) then 1 else (wrapK .i64 (Nat.land (bitsK .i64 o.win) (bitsK .i64 127)))), .int .i64 (if (1 : Int) > (wrapK .i64 (Nat.land (bitsK .i64 o.size) (bitsK .i64 15))) then 1 else (wrapK .i64 (Nat.land (bitsK .i64 o.size) (bitsK .i64 15)))), .int .i64 (if (1 : Int) > (wrapK .i64 (Nat.land (bitsK .i64 o.wait) (bitsK .i64 7))) then 1 else (wrapK .i64 (Nat.land (bitsK .i64 o.wait) (bitsK .i64 7))))])
set_option maxRecDepth 1000000 in
theorem treeFine_eq (o : Gw.Offer) : funT (mkXT (noPX) (noOX)) (mkXP (noPX)) (mkX (noPX) (noOX)) D (fun _ => noOrc) (fun _ => []) 12 noOrc [] (noLt) (dOf 10) [.agg o.vs] (smallH []) (fun v _ => v) = treeFine o := by kernel_rfl
theorem bit7 (n : Int) (m : Nat) (hm : m < 256) : wrapK .i64 (Nat.land (bitsK .i64 n) m) = band n m := by
  have := band_bnd n m
  exact wrap_small (by unfold band at this; omega)
theorem or1 (x : Int) (h : 0 ≤ x ∧ x < 16) : wrapK .i64 (Nat.lor (bitsK .i64 x) (bitsK .i64 1)) = odd1 x := by
  obtain ⟨k, rfl⟩ : ∃ k : Nat, x = (k : Int) := ⟨x.toNat, by omega⟩
  have hk : k < 16 := by omega
  have : ∀ k : Nat, k < 16 → wrapK .i64 (Nat.lor (bitsK .i64 (k : Int)) (bitsK .i64 1)) = odd1 (k : Int) := by decide
  exact this k hk
theorem b15 : bitsK .i64 15 = 15 := by decide
theorem b7 : bitsK .i64 7 = 7 := by decide
theorem b127 : bitsK .i64 127 = 127 := by decide
theorem bitsP : bitsK .i64 65535 = 65535 := by decide
theorem satFine (o : Gw.Offer) : (treeFine o).sat fun v => v = .agg (fineO o).vs := by
  have h1 := band_bnd o.baud 15
  have h2 := band_bnd o.silent 7
  simp only [treeFine, DT.sat, b15, b7, b127, bit7 _ 15 (by decide), bit7 _ 7 (by decide), bit7 _ 127 (by decide), or1 _ (show 0 ≤ band o.baud 15 ∧ band o.baud 15 < 16 by omega), or1 _ (show 0 ≤ band o.silent 7 ∧ band o.silent 7 < 16 by omega)]
  rfl
theorem ans_fine (orc : Nat → Option V) : AnsO Tryz.prog 10 (fun args h => (gD dOff pFine orc args h).run) := ansD orc fun args hd => by
  unfold dOff at hd
  split at hd
  · rename_i a b c d e
    exact ⟨rfl, rfl, run_plainU mixed TabX.nil tabD (dIs (by kernel_rfl)) (treeFine_eq ⟨a, b, c, d, e⟩) (satFine ⟨a, b, c, d, e⟩)⟩
  · exact hd.elim
def treeMay (o : Gw.Offer) : DT V :=
  .ob (((((wrapK .i64 (Nat.land (bitsK .i64 o.baud) (bitsK .i64 1))) : Int) == 1) == true) = true → ((True) ∧ ((True) ∧ ((True) ∧ ((True) ∧ (True)))))) (
.node ((cond ((((wrapK .i64 (Nat.land (bitsK .i64 o.baud) (bitsK .i64 1))) : Int) == 1) == true) (((wrapK .i64 (Nat.land (bitsK .i64 o.silent) (bitsK .i64 1))) : Int) == 1) false) == true) (
.ob (((decide ((o.baud : Int) ≥ 1)) == true) = true → ((True) ∧ ((True) ∧ ((True) ∧ (True))))) (
.node ((cond ((decide ((o.baud : Int) ≥ 1)) == true) (decide ((o.baud : Int) ≤ 15)) false) == true) (
.ob (((decide ((o.silent : Int) ≥ 1)) == true) = true → ((True) ∧ ((True) ∧ ((True) ∧ (True))))) (
.node ((cond ((decide ((o.silent : Int) ≥ 1)) == true) (decide ((o.silent : Int) ≤ 7)) false) == true) (
.ob (((decide ((o.win : Int) ≥ 1)) == true) = true → ((True) ∧ ((True) ∧ ((True) ∧ (True))))) (
.node ((cond ((decide ((o.win : Int) ≥ 1)) == true) (decide ((o.win : Int) ≤ 127)) false) == true) (
.ob (((decide ((o.size : Int) ≥ 1)) == true) = true → ((True) ∧ ((True) ∧ ((True) ∧ (True))))) (
.node ((cond ((decide ((o.size : Int) ≥ 1)) == true) (decide ((o.size : Int) ≤ 15)) false) == true) (
.ob (((decide ((o.wait : Int) ≥ 1)) == true) = true → ((True) ∧ ((True) ∧ ((True) ∧ (True))))) (
.leaf (.bool (cond ((decide ((o.wait : Int) ≥ 1)) == true) (decide ((o.wait : Int) ≤ 7)) false)))) (
.leaf (.bool false)))) (
.leaf (.bool false)))) (
.leaf (.bool false)))) (
.leaf (.bool false)))) (
.leaf (.bool false)))
set_option maxRecDepth 1000000 in
theorem treeMay_eq (o : Gw.Offer) : funT (mkXT (noPX) (noOX)) (mkXP (noPX)) (mkX (noPX) (noOX)) D (fun _ => noOrc) (fun _ => []) 12 noOrc [] (noLt) (dOf 43) [.agg o.vs] (smallH []) (fun v _ => v) = treeMay o := by kernel_rfl
theorem bit1 (n : Int) : wrapK .i64 (Nat.land (bitsK .i64 n) (bitsK .i64 1)) = n % 2 := by
  have e : bitsK .i64 1 = 2 ^ 1 - 1 := by decide
  have : Nat.land (bitsK .i64 n) (bitsK .i64 1) = bitsK .i64 n % 2 := by rw [e]; exact Nat.and_two_pow_sub_one_eq_mod _ 1
  rw [this]
  have h : bitsK .i64 n = (n % 18446744073709551616).toNat := rfl
  rw [h, wrap_small (by omega)]
  omega
theorem satMay (o : Gw.Offer) : (treeMay o).sat fun v => v = .bool (mayO o) := by
  simp only [treeMay, DT.sat, bit1]
  simp [mayO]
  grind
theorem ans_may (orc : Nat → Option V) : AnsO Tryz.prog 43 (fun args h => (gD dOff pMayQ orc args h).run) := ansD orc fun args hd => by
  unfold dOff at hd
  split at hd
  · rename_i a b c d e
    exact ⟨rfl, rfl, run_plainU mixed TabX.nil tabD (dIs (by kernel_rfl)) (treeMay_eq ⟨a, b, c, d, e⟩) (satMay ⟨a, b, c, d, e⟩)⟩
  · exact hd.elim
def silL (i : Int) : Int := if i = 0 then 200 else if i = 1 then 300 else if i = 2 then 500 else 0
def dHigh : List V → Prop
  | [.int .i64 n] => 0 ≤ n ∧ n < 128
  | _ => False
def pHigh : List V → V
  | [.int .i64 n] => .int .i64 (hiL n)
  | _ => .nilp
set_option maxRecDepth 1000000 in
theorem run_high : (List.range 128).all (fun n => isInt (callN (mkX noPX noOX) D 100 82 [.int .i64 (n : Int)] (smallH [])) (hiL (n : Int))) = true := by kernel_rfl
theorem ans_high (orc : Nat → Option V) : AnsO Tryz.prog 82 (fun args h => (gD dHigh pHigh orc args h).run) := ansD orc fun args hd => by
  unfold dHigh at hd
  split at hd
  · rename_i n
    obtain ⟨k, rfl⟩ : ∃ k : Nat, n = (k : Int) := ⟨n.toNat, by omega⟩
    have := List.all_eq_true.1 run_high k (List.mem_range.2 (by omega))
    exact ⟨rfl, rfl, run_int mixed TabX.nil.ext tabD this⟩
  · exact hd.elim
def dLow : List V → Prop
  | [.int .i64 n] => 0 ≤ n ∧ n < 8
  | _ => False
def pLow : List V → V
  | [.int .i64 n] => .int .i64 (loL n)
  | _ => .nilp
set_option maxRecDepth 1000000 in
theorem run_low : (List.range 8).all (fun n => isInt (callN (mkX noPX noOX) D 100 84 [.int .i64 (n : Int)] (tabH kT0 kT1 kT2 3)) (loL (n : Int))) = true := by kernel_rfl
theorem ans_low (orc : Nat → Option V) : AnsO Tryz.prog 84 (fun args h => (gDT kT0 kT1 kT2 dLow pLow orc args h).run) := ansDT orc fun args hd => by
  unfold dLow at hd
  split at hd
  · rename_i n
    obtain ⟨k, rfl⟩ : ∃ k : Nat, n = (k : Int) := ⟨n.toNat, by omega⟩
    have := List.all_eq_true.1 run_low k (List.mem_range.2 (by omega))
    exact ⟨rfl, rfl, run_int mixed TabX.nil.ext tabD this⟩
  · exact hd.elim
def dBaud : List V → Prop
  | [.int .i64 n] => 0 ≤ n ∧ n < 4
  | _ => False
def pBaud : List V → V
  | [.int .i64 n] => .int .i64 (baudL n)
  | _ => .nilp
set_option maxRecDepth 1000000 in
theorem run_baud : (List.range 4).all (fun n => isInt (callN (mkX noPX noOX) D 100 81 [.int .i64 (n : Int)] (smallH [])) (baudL (n : Int))) = true := by kernel_rfl
theorem ans_baud (orc : Nat → Option V) : AnsO Tryz.prog 81 (fun args h => (gD dBaud pBaud orc args h).run) := ansD orc fun args hd => by
  unfold dBaud at hd
  split at hd
  · rename_i n
    obtain ⟨k, rfl⟩ : ∃ k : Nat, n = (k : Int) := ⟨n.toNat, by omega⟩
    have := List.all_eq_true.1 run_baud k (List.mem_range.2 (by omega))
    exact ⟨rfl, rfl, run_int mixed TabX.nil.ext tabD this⟩
  · exact hd.elim
def dSil : List V → Prop
  | [.int .i64 n] => 0 ≤ n ∧ n < 3
  | _ => False
def pSil : List V → V
  | [.int .i64 n] => .int .i64 (silL n)
  | _ => .nilp
set_option maxRecDepth 1000000 in
theorem run_silent : (List.range 3).all (fun n => isInt (callN (mkX noPX noOX) D 100 83 [.int .i64 (n : Int)] (smallH [])) (silL (n : Int))) = true := by kernel_rfl
theorem ans_silent (orc : Nat → Option V) : AnsO Tryz.prog 83 (fun args h => (gD dSil pSil orc args h).run) := ansD orc fun args hd => by
  unfold dSil at hd
  split at hd
  · rename_i n
    obtain ⟨k, rfl⟩ : ∃ k : Nat, n = (k : Int) := ⟨n.toNat, by omega⟩
    have := List.all_eq_true.1 run_silent k (List.mem_range.2 (by omega))
    exact ⟨rfl, rfl, run_int mixed TabX.nil.ext tabD this⟩
  · exact hd.elim
def pSize : List V → V
  | [.int .i64 n] => .int .i64 (sizeL n)
  | _ => .nilp
set_option maxRecDepth 1000000 in
theorem run_size : (List.range 4).all (fun n => isInt (callN (mkX noPX noOX) D 100 85 [.int .i64 (n : Int)] (smallH [])) (sizeL (n : Int))) = true := by kernel_rfl
theorem ans_size (orc : Nat → Option V) : AnsO Tryz.prog 85 (fun args h => (gD dBaud pSize orc args h).run) := ansD orc fun args hd => by
  unfold dBaud at hd
  split at hd
  · rename_i n
    obtain ⟨k, rfl⟩ : ∃ k : Nat, n = (k : Int) := ⟨n.toNat, by omega⟩
    have := List.all_eq_true.1 run_size k (List.mem_range.2 (by omega))
    exact ⟨rfl, rfl, run_int mixed TabX.nil.ext tabD this⟩
  · exact hd.elim
def dFrame : List V → Prop
  | [.int .i64 s, .int .i64 b] => (s = 8 ∨ s = 16 ∨ s = 32 ∨ s = 64) ∧ (b = 32 ∨ b = 64 ∨ b = 128 ∨ b = 256)
  | _ => False
def pFrame : List V → V
  | [.int .i64 s, .int .i64 b] => .int .i64 (frameL s b)
  | _ => .nilp
set_option maxRecDepth 1000000 in
theorem run_frame : ([8, 16, 32, 64] : List Int).all (fun s => ([32, 64, 128, 256] : List Int).all fun b => isInt (callN (mkX noPX noOX) D 100 86 [.int .i64 s, .int .i64 b] (smallH [])) (frameL s b)) = true := by kernel_rfl
theorem ans_frame (orc : Nat → Option V) : AnsO Tryz.prog 86 (fun args h => (gD dFrame pFrame orc args h).run) := ansD orc fun args hd => by
  unfold dFrame at hd
  split at hd
  · rename_i s b
    have h1 := List.all_eq_true.1 run_frame s (by simp; exact hd.1)
    have h2 := List.all_eq_true.1 h1 b (by simp; exact hd.2)
    exact ⟨rfl, rfl, run_int mixed TabX.nil.ext tabD h2⟩
  · exact hd.elim
end Go.Proofs.YtjcninlcdnkofaaGreatDoor

/- Deals. -/
noncomputable section
namespace Go.Proofs.YtjcninlcdnkofaaGreatDoor
open Go Gw Go.RowKit
set_option linter.unusedSimpArgs false
set_option linter.unusedVariables false
def dDeal : List V → Prop
  | [.agg [.int .i64 a1, .int .i64 a2, .int .i64 a3, .int .i64 a4, .int .i64 a5], .agg [.int .i64 b1, .int .i64 b2, .int .i64 b3, .int .i64 b4, .int .i64 b5]] => MayO ⟨a1, a2, a3, a4, a5⟩ ∧ MayO ⟨b1, b2, b3, b4, b5⟩
  | _ => False
def pDeal : List V → V
  | [.agg [.int .i64 a1, .int .i64 a2, .int .i64 a3, .int .i64 a4, .int .i64 a5], .agg [.int .i64 b1, .int .i64 b2, .int .i64 b3, .int .i64 b4, .int .i64 b5]] => .tup [.agg (dealL ⟨a1, a2, a3, a4, a5⟩ ⟨b1, b2, b3, b4, b5⟩).vs, .bool true]
  | _ => .nilp
theorem land_odd : ∀ x < 16, ∀ y < 16, x % 2 = 1 → y % 2 = 1 → (Nat.land x y) % 2 = 1 ∧ Nat.land x y ≤ 15 := by decide
variable {a b : Gw.Offer}
theorem may_of {o : Gw.Offer} (h : MayO o) : pMayQ [.agg [.int .i64 o.baud, .int .i64 o.silent, .int .i64 o.win, .int .i64 o.size, .int .i64 o.wait]] = .bool true := by
  show V.bool (mayO o) = _
  rw [(mayO_iff o).2 h]
theorem cbW (hb : MayO b) : wrapK .i64 (Nat.land (bitsK .i64 a.baud) (bitsK .i64 b.baud)) = cbaud a b := by
  have := hb.b
  unfold cbaud
  rw [bits_small (n := b.baud) (by omega)]
  exact bit7 _ _ (by omega)
theorem cbB (ha : MayO a) (hb : MayO b) : 1 ≤ cbaud a b ∧ cbaud a b ≤ 15 := by
  have h1 := ha.b
  have h2 := hb.b
  have h3 := ha.b1
  have h4 := hb.b1
  unfold cbaud band
  rw [bits_small (n := a.baud) (by omega)]
  have := land_odd a.baud.toNat (by omega) b.baud.toNat (by omega) (by omega) (by omega)
  omega
theorem slW (ha : MayO a) (hb : MayO b) : ∃ n : Int, wrapK .i64 (Nat.land (bitsK .i64 a.silent) (bitsK .i64 b.silent)) = n ∧ (0 ≤ n ∧ n < 8) ∧ loL n = 0 := by
  have h1 := ha.s
  have h2 := hb.s
  have h3 := ha.s1
  have h4 := hb.s1
  refine ⟨_, rfl, ?_⟩
  rw [bits_small (n := a.silent) (by omega), bits_small (n := b.silent) (by omega)]
  have := land_odd a.silent.toNat (by omega) b.silent.toNat (by omega) (by omega) (by omega)
  have h5 : Nat.land a.silent.toNat b.silent.toNat ≤ b.silent.toNat := Nat.and_le_right
  rw [wrap_small (by omega)]
  refine ⟨by omega, ?_⟩
  unfold loL
  rw [if_pos (by omega)]
theorem hiL4 {n : Int} (h : 1 ≤ n ∧ n < 16) : 0 ≤ hiL n ∧ hiL n < 4 := by
  unfold hiL
  repeat' split
  all_goals omega
theorem hiL7 {n : Int} (h : 1 ≤ n ∧ n < 128) : 0 ≤ hiL n ∧ hiL n < 7 := by
  unfold hiL
  repeat' split
  all_goals omega
theorem cases4 {i : Int} (h : 0 ≤ i ∧ i < 4) : i = 0 ∨ i = 1 ∨ i = 2 ∨ i = 3 := by omega
theorem fr_bnd {i j : Int} (hi : 0 ≤ i ∧ i < 4) (hj : 0 ≤ j ∧ j < 4) : 1 ≤ frameL (sizeL i) (baudL j) ∧ frameL (sizeL i) (baudL j) ≤ 5 ∧ (frameL (sizeL i) (baudL j) = 5 → i = 3 ∧ j = 0) := by
  rcases cases4 hi with rfl | rfl | rfl | rfl <;> rcases cases4 hj with rfl | rfl | rfl | rfl <;> decide
theorem fr_dom {i j : Int} (hi : 0 ≤ i ∧ i < 4) (hj : 0 ≤ j ∧ j < 4) : dFrame [.int .i64 (sizeL i), .int .i64 (baudL j)] := by
  show (_ ∨ _) ∧ (_ ∨ _)
  rcases cases4 hi with rfl | rfl | rfl | rfl <;> rcases cases4 hj with rfl | rfl | rfl | rfl <;> decide
theorem gtrF {x : Int} (h : 0 ≤ x ∧ x ≤ 30) : binV .gtr (.int .i64 (wrapK .i64 x)) (.int .i64 30) = some (.bool false) := by
  rw [wrap_small (by omega)]
  simp [binV, binI]
  omega
theorem HF (ha : MayO a) (hb : MayO b) : 1 ≤ frameL (sizeL (hiL b.size)) (baudL (hiL (cbaud a b))) ∧ frameL (sizeL (hiL b.size)) (baudL (hiL (cbaud a b))) ≤ 5 ∧ (frameL (sizeL (hiL b.size)) (baudL (hiL (cbaud a b))) = 5 → hiL b.size = 3 ∧ hiL (cbaud a b) = 0) := by
  have h1 := hb.z
  have h2 := cbB ha hb
  exact fr_bnd (hiL4 (by omega)) (hiL4 (by omega))
theorem winI {w f : Int} (h : w * f ≤ 30) : winL w f = w := by
  unfold winL winGo
  rw [if_neg (by omega)]
def treeDeal0 (a : Gw.Offer) (b : Gw.Offer) : DT V :=
  .ob (dOff [.agg [.int .i64 a.baud, .int .i64 a.silent, .int .i64 a.win, .int .i64 a.size, .int .i64 a.wait]]) (
.ob (pMayQ [.agg [.int .i64 a.baud, .int .i64 a.silent, .int .i64 a.win, .int .i64 a.size, .int .i64 a.wait]] = (.bool true)) (
.ob (dOff [.agg [.int .i64 b.baud, .int .i64 b.silent, .int .i64 b.win, .int .i64 b.size, .int .i64 b.wait]]) (
.ob (pMayQ [.agg [.int .i64 b.baud, .int .i64 b.silent, .int .i64 b.win, .int .i64 b.size, .int .i64 b.wait]] = (.bool true)) (
.ob (dHigh [.int .i64 (wrapK .i64 (Nat.land (bitsK .i64 a.baud) (bitsK .i64 b.baud)))]) (
.ob (((V.beq (.int .i64 b.wait) (.int .i64 b.wait)) && ((V.beq (.int .i64 b.win) (.int .i64 b.win)) && ((V.beq (.int .i64 b.size) (.int .i64 b.size)) && ((V.beq (.int .i64 b.silent) (.int .i64 b.silent)) && ((V.beq (.int .i64 a.silent) (.int .i64 a.silent)) && true))))) = true) (
.ob (dBaud [.int .i64 (hiL (wrapK .i64 (Nat.land (bitsK .i64 a.baud) (bitsK .i64 b.baud))))]) (
.ob (((V.beq (.int .i64 b.wait) (.int .i64 b.wait)) && ((V.beq (.int .i64 b.win) (.int .i64 b.win)) && ((V.beq (.int .i64 b.size) (.int .i64 b.size)) && ((V.beq (.int .i64 b.silent) (.int .i64 b.silent)) && ((V.beq (.int .i64 a.silent) (.int .i64 a.silent)) && true))))) = true) (
.ob (dLow [.int .i64 (wrapK .i64 (Nat.land (bitsK .i64 a.silent) (bitsK .i64 b.silent)))]) (
.ob (((V.beq (.int .i64 b.wait) (.int .i64 b.wait)) && ((V.beq (.int .i64 b.win) (.int .i64 b.win)) && ((V.beq (.int .i64 b.size) (.int .i64 b.size)) && true))) = true) (
.ob (dSil [.int .i64 (loL (wrapK .i64 (Nat.land (bitsK .i64 a.silent) (bitsK .i64 b.silent))))]) (
.ob (pSil [.int .i64 (loL (wrapK .i64 (Nat.land (bitsK .i64 a.silent) (bitsK .i64 b.silent))))] = (.int .i64 200)) (
.ob (((V.beq (.int .i64 b.wait) (.int .i64 b.wait)) && ((V.beq (.int .i64 b.win) (.int .i64 b.win)) && ((V.beq (.int .i64 b.size) (.int .i64 b.size)) && true))) = true) (
.ob (dHigh [.int .i64 b.size]) (
.ob (((V.beq (.int .i64 b.wait) (.int .i64 b.wait)) && ((V.beq (.int .i64 b.win) (.int .i64 b.win)) && true)) = true) (
.ob (dBaud [.int .i64 (hiL b.size)]) (
.ob (((V.beq (.int .i64 b.wait) (.int .i64 b.wait)) && ((V.beq (.int .i64 b.win) (.int .i64 b.win)) && true)) = true) (
.ob (dHigh [.int .i64 b.win]) (
.ob (((V.beq (.int .i64 b.wait) (.int .i64 b.wait)) && true) = true) (
.ob (binV .add (.int .i64 (hiL b.win)) (.int .i64 1) = some (.int .i64 1)) (
.ob (dLow [.int .i64 b.wait]) (
.leaf (.tup [.agg [.int .i64 (baudL (hiL (wrapK .i64 (Nat.land (bitsK .i64 a.baud) (bitsK .i64 b.baud))))), .int .i64 200, .int .i64 1, .int .i64 (sizeL (hiL b.size)), .int .i64 (loL b.wait)], .bool true]))))))))))))))))))))))
set_option maxRecDepth 1000000 in
theorem treeDeal0_eq (a : Gw.Offer) (b : Gw.Offer) : funT (mkXT (noPX) ((consT 86 (gD dFrame pFrame noV) (consT 85 (gD dBaud pSize noV) (consT 83 (gD dSil pSil (fun n => match n with | 35 => some (.int .i64 200) | _ => none)) (consT 81 (gD dBaud pBaud noV) (consT 84 (gDT kT0 kT1 kT2 dLow pLow noV) (consT 82 (gD dHigh pHigh noV) (consT 43 (gD dOff pMayQ (fun n => match n with | 7 => some (.bool true) | _ => none)) noOX))))))))) (mkXP (noPX)) (mkX (noPX) ((consT 86 (gD dFrame pFrame noV) (consT 85 (gD dBaud pSize noV) (consT 83 (gD dSil pSil (fun n => match n with | 35 => some (.int .i64 200) | _ => none)) (consT 81 (gD dBaud pBaud noV) (consT 84 (gDT kT0 kT1 kT2 dLow pLow noV) (consT 82 (gD dHigh pHigh noV) (consT 43 (gD dOff pMayQ (fun n => match n with | 7 => some (.bool true) | _ => none)) noOX))))))))) D (fun _ => noOrc) (fun k => match k with | 47 => [8, 12, 44] | _ => []) 12 (fun k => match k with | 37 => some fun t h => (.int .i64 1, h) | _ => none) [8, 12, 44] (noLt) (dOf 47) [.agg a.vs, .agg b.vs] (tabH kT0 kT1 kT2 3) (fun v _ => v) = treeDeal0 a b := by kernel_rfl
theorem satDeal0 (a b : Gw.Offer) (ha : MayO a) (hb : MayO b) (hw : hiL b.win = 0) : (treeDeal0 a b).sat fun v => v = .tup [.agg (dealL a b).vs, .bool true] :=
 sat_ob trivial (
sat_ob (may_of ha) (
sat_ob trivial (
sat_ob (may_of hb) (
sat_ob (show 0 ≤ _ ∧ _ < 128 by rw [cbW hb]; have := cbB ha hb; omega) (
sat_ob (by simp [V.beq, V.beqs]) (
sat_ob (show 0 ≤ _ ∧ _ < 4 by rw [cbW hb]; have := cbB ha hb; exact hiL4 (by omega)) (
sat_ob (by simp [V.beq, V.beqs]) (
sat_ob (show 0 ≤ _ ∧ _ < 8 by obtain ⟨n, e1, e2, e3⟩ := slW ha hb; rw [e1]; exact e2) (
sat_ob (by simp [V.beq, V.beqs]) (
sat_ob (show 0 ≤ _ ∧ _ < 3 by obtain ⟨n, e1, e2, e3⟩ := slW ha hb; rw [e1, e3]; decide) (
sat_ob (show V.int .i64 (silL _) = _ by obtain ⟨n, e1, e2, e3⟩ := slW ha hb; rw [e1, e3]; rfl) (
sat_ob (by simp [V.beq, V.beqs]) (
sat_ob (show 0 ≤ _ ∧ _ < 128 by have := hb.z; omega) (
sat_ob (by simp [V.beq, V.beqs]) (
sat_ob (show 0 ≤ _ ∧ _ < 4 by have := hb.z; exact hiL4 (by omega)) (
sat_ob (by simp [V.beq, V.beqs]) (
sat_ob (show 0 ≤ _ ∧ _ < 128 by have := hb.w; omega) (
sat_ob (by simp [V.beq, V.beqs]) (
sat_ob (by rw [hw]; rfl) (
sat_ob (show 0 ≤ _ ∧ _ < 8 by have := hb.t; omega) (
sat_leaf (by simp only [dealL, Gw.Deal.vs, cbW hb, hw, vi]; rw [winI (by have := HF ha hb; omega)]; rfl))))))))))))))))))))))
theorem tabDeal0 : TabX Tryz.prog noPX ((consT 86 (gD dFrame pFrame noV) (consT 85 (gD dBaud pSize noV) (consT 83 (gD dSil pSil (fun n => match n with | 35 => some (.int .i64 200) | _ => none)) (consT 81 (gD dBaud pBaud noV) (consT 84 (gDT kT0 kT1 kT2 dLow pLow noV) (consT 82 (gD dHigh pHigh noV) (consT 43 (gD dOff pMayQ (fun n => match n with | 7 => some (.bool true) | _ => none)) noOX)))))))) := (((((((TabX.nil.addT (ans_may (fun n => match n with | 7 => some (.bool true) | _ => none))).addT (ans_high noV)).addT (ans_low noV)).addT (ans_baud noV)).addT (ans_silent (fun n => match n with | 35 => some (.int .i64 200) | _ => none))).addT (ans_size noV)).addT (ans_frame noV))
def treeDeal1 (a : Gw.Offer) (b : Gw.Offer) : DT V :=
  .ob (dOff [.agg [.int .i64 a.baud, .int .i64 a.silent, .int .i64 a.win, .int .i64 a.size, .int .i64 a.wait]]) (
.ob (pMayQ [.agg [.int .i64 a.baud, .int .i64 a.silent, .int .i64 a.win, .int .i64 a.size, .int .i64 a.wait]] = (.bool true)) (
.ob (dOff [.agg [.int .i64 b.baud, .int .i64 b.silent, .int .i64 b.win, .int .i64 b.size, .int .i64 b.wait]]) (
.ob (pMayQ [.agg [.int .i64 b.baud, .int .i64 b.silent, .int .i64 b.win, .int .i64 b.size, .int .i64 b.wait]] = (.bool true)) (
.ob (dHigh [.int .i64 (wrapK .i64 (Nat.land (bitsK .i64 a.baud) (bitsK .i64 b.baud)))]) (
.ob (((V.beq (.int .i64 b.wait) (.int .i64 b.wait)) && ((V.beq (.int .i64 b.win) (.int .i64 b.win)) && ((V.beq (.int .i64 b.size) (.int .i64 b.size)) && ((V.beq (.int .i64 b.silent) (.int .i64 b.silent)) && ((V.beq (.int .i64 a.silent) (.int .i64 a.silent)) && true))))) = true) (
.ob (dBaud [.int .i64 (hiL (wrapK .i64 (Nat.land (bitsK .i64 a.baud) (bitsK .i64 b.baud))))]) (
.ob (((V.beq (.int .i64 b.wait) (.int .i64 b.wait)) && ((V.beq (.int .i64 b.win) (.int .i64 b.win)) && ((V.beq (.int .i64 b.size) (.int .i64 b.size)) && ((V.beq (.int .i64 b.silent) (.int .i64 b.silent)) && ((V.beq (.int .i64 a.silent) (.int .i64 a.silent)) && true))))) = true) (
.ob (dLow [.int .i64 (wrapK .i64 (Nat.land (bitsK .i64 a.silent) (bitsK .i64 b.silent)))]) (
.ob (((V.beq (.int .i64 b.wait) (.int .i64 b.wait)) && ((V.beq (.int .i64 b.win) (.int .i64 b.win)) && ((V.beq (.int .i64 b.size) (.int .i64 b.size)) && true))) = true) (
.ob (dSil [.int .i64 (loL (wrapK .i64 (Nat.land (bitsK .i64 a.silent) (bitsK .i64 b.silent))))]) (
.ob (pSil [.int .i64 (loL (wrapK .i64 (Nat.land (bitsK .i64 a.silent) (bitsK .i64 b.silent))))] = (.int .i64 200)) (
.ob (((V.beq (.int .i64 b.wait) (.int .i64 b.wait)) && ((V.beq (.int .i64 b.win) (.int .i64 b.win)) && ((V.beq (.int .i64 b.size) (.int .i64 b.size)) && true))) = true) (
.ob (dHigh [.int .i64 b.size]) (
.ob (((V.beq (.int .i64 b.wait) (.int .i64 b.wait)) && ((V.beq (.int .i64 b.win) (.int .i64 b.win)) && true)) = true) (
.ob (dBaud [.int .i64 (hiL b.size)]) (
.ob (((V.beq (.int .i64 b.wait) (.int .i64 b.wait)) && ((V.beq (.int .i64 b.win) (.int .i64 b.win)) && true)) = true) (
.ob (dHigh [.int .i64 b.win]) (
.ob (((V.beq (.int .i64 b.wait) (.int .i64 b.wait)) && true) = true) (
.ob (binV .add (.int .i64 (hiL b.win)) (.int .i64 1) = some (.int .i64 2)) (
.ob (dLow [.int .i64 b.wait]) (
.ob (dFrame [.int .i64 (sizeL (hiL b.size)), .int .i64 (baudL (hiL (wrapK .i64 (Nat.land (bitsK .i64 a.baud) (bitsK .i64 b.baud)))))]) (
.ob (((V.beq (.int .i64 2) (.int .i64 2)) && true) = true) (
.ob (binV .gtr (.int .i64 (wrapK .i64 (2 * (frameL (sizeL (hiL b.size)) (baudL (hiL (wrapK .i64 (Nat.land (bitsK .i64 a.baud) (bitsK .i64 b.baud))))))))) (.int .i64 30) = some (.bool false)) (
.leaf (.tup [.agg [.int .i64 (baudL (hiL (wrapK .i64 (Nat.land (bitsK .i64 a.baud) (bitsK .i64 b.baud))))), .int .i64 200, .int .i64 2, .int .i64 (sizeL (hiL b.size)), .int .i64 (loL b.wait)], .bool true])))))))))))))))))))))))))
set_option maxRecDepth 1000000 in
theorem treeDeal1_eq (a : Gw.Offer) (b : Gw.Offer) : funT (mkXT (noPX) ((consT 86 (gD dFrame pFrame noV) (consT 85 (gD dBaud pSize noV) (consT 83 (gD dSil pSil (fun n => match n with | 35 => some (.int .i64 200) | _ => none)) (consT 81 (gD dBaud pBaud noV) (consT 84 (gDT kT0 kT1 kT2 dLow pLow noV) (consT 82 (gD dHigh pHigh noV) (consT 43 (gD dOff pMayQ (fun n => match n with | 7 => some (.bool true) | _ => none)) noOX))))))))) (mkXP (noPX)) (mkX (noPX) ((consT 86 (gD dFrame pFrame noV) (consT 85 (gD dBaud pSize noV) (consT 83 (gD dSil pSil (fun n => match n with | 35 => some (.int .i64 200) | _ => none)) (consT 81 (gD dBaud pBaud noV) (consT 84 (gDT kT0 kT1 kT2 dLow pLow noV) (consT 82 (gD dHigh pHigh noV) (consT 43 (gD dOff pMayQ (fun n => match n with | 7 => some (.bool true) | _ => none)) noOX))))))))) D (fun _ => noOrc) (fun k => match k with | 47 => [8, 12, 44, 54] | _ => []) 12 (fun k => match k with | 37 => some fun t h => (.int .i64 2, h) | 54 => some fun t h => (.bool false, h) | _ => none) [8, 12, 44, 54] (noLt) (dOf 47) [.agg a.vs, .agg b.vs] (tabH kT0 kT1 kT2 3) (fun v _ => v) = treeDeal1 a b := by kernel_rfl
theorem satDeal1 (a b : Gw.Offer) (ha : MayO a) (hb : MayO b) (hw : hiL b.win = 1) : (treeDeal1 a b).sat fun v => v = .tup [.agg (dealL a b).vs, .bool true] :=
 sat_ob trivial (
sat_ob (may_of ha) (
sat_ob trivial (
sat_ob (may_of hb) (
sat_ob (show 0 ≤ _ ∧ _ < 128 by rw [cbW hb]; have := cbB ha hb; omega) (
sat_ob (by simp [V.beq, V.beqs]) (
sat_ob (show 0 ≤ _ ∧ _ < 4 by rw [cbW hb]; have := cbB ha hb; exact hiL4 (by omega)) (
sat_ob (by simp [V.beq, V.beqs]) (
sat_ob (show 0 ≤ _ ∧ _ < 8 by obtain ⟨n, e1, e2, e3⟩ := slW ha hb; rw [e1]; exact e2) (
sat_ob (by simp [V.beq, V.beqs]) (
sat_ob (show 0 ≤ _ ∧ _ < 3 by obtain ⟨n, e1, e2, e3⟩ := slW ha hb; rw [e1, e3]; decide) (
sat_ob (show V.int .i64 (silL _) = _ by obtain ⟨n, e1, e2, e3⟩ := slW ha hb; rw [e1, e3]; rfl) (
sat_ob (by simp [V.beq, V.beqs]) (
sat_ob (show 0 ≤ _ ∧ _ < 128 by have := hb.z; omega) (
sat_ob (by simp [V.beq, V.beqs]) (
sat_ob (show 0 ≤ _ ∧ _ < 4 by have := hb.z; exact hiL4 (by omega)) (
sat_ob (by simp [V.beq, V.beqs]) (
sat_ob (show 0 ≤ _ ∧ _ < 128 by have := hb.w; omega) (
sat_ob (by simp [V.beq, V.beqs]) (
sat_ob (by rw [hw]; rfl) (
sat_ob (show 0 ≤ _ ∧ _ < 8 by have := hb.t; omega) (
sat_ob (fr_dom (by have := hb.z; exact hiL4 (by omega)) (by rw [cbW hb]; have := cbB ha hb; exact hiL4 (by omega))) (
sat_ob (by simp [V.beq, V.beqs]) (
sat_ob (gtrF (by rw [cbW hb]; have := HF ha hb; omega)) (
sat_leaf (by simp only [dealL, Gw.Deal.vs, cbW hb, hw, vi]; rw [winI (by have := HF ha hb; omega)]; rfl)))))))))))))))))))))))))
theorem tabDeal1 : TabX Tryz.prog noPX ((consT 86 (gD dFrame pFrame noV) (consT 85 (gD dBaud pSize noV) (consT 83 (gD dSil pSil (fun n => match n with | 35 => some (.int .i64 200) | _ => none)) (consT 81 (gD dBaud pBaud noV) (consT 84 (gDT kT0 kT1 kT2 dLow pLow noV) (consT 82 (gD dHigh pHigh noV) (consT 43 (gD dOff pMayQ (fun n => match n with | 7 => some (.bool true) | _ => none)) noOX)))))))) := (((((((TabX.nil.addT (ans_may (fun n => match n with | 7 => some (.bool true) | _ => none))).addT (ans_high noV)).addT (ans_low noV)).addT (ans_baud noV)).addT (ans_silent (fun n => match n with | 35 => some (.int .i64 200) | _ => none))).addT (ans_size noV)).addT (ans_frame noV))
def treeDeal2 (a : Gw.Offer) (b : Gw.Offer) : DT V :=
  .ob (dOff [.agg [.int .i64 a.baud, .int .i64 a.silent, .int .i64 a.win, .int .i64 a.size, .int .i64 a.wait]]) (
.ob (pMayQ [.agg [.int .i64 a.baud, .int .i64 a.silent, .int .i64 a.win, .int .i64 a.size, .int .i64 a.wait]] = (.bool true)) (
.ob (dOff [.agg [.int .i64 b.baud, .int .i64 b.silent, .int .i64 b.win, .int .i64 b.size, .int .i64 b.wait]]) (
.ob (pMayQ [.agg [.int .i64 b.baud, .int .i64 b.silent, .int .i64 b.win, .int .i64 b.size, .int .i64 b.wait]] = (.bool true)) (
.ob (dHigh [.int .i64 (wrapK .i64 (Nat.land (bitsK .i64 a.baud) (bitsK .i64 b.baud)))]) (
.ob (((V.beq (.int .i64 b.wait) (.int .i64 b.wait)) && ((V.beq (.int .i64 b.win) (.int .i64 b.win)) && ((V.beq (.int .i64 b.size) (.int .i64 b.size)) && ((V.beq (.int .i64 b.silent) (.int .i64 b.silent)) && ((V.beq (.int .i64 a.silent) (.int .i64 a.silent)) && true))))) = true) (
.ob (dBaud [.int .i64 (hiL (wrapK .i64 (Nat.land (bitsK .i64 a.baud) (bitsK .i64 b.baud))))]) (
.ob (((V.beq (.int .i64 b.wait) (.int .i64 b.wait)) && ((V.beq (.int .i64 b.win) (.int .i64 b.win)) && ((V.beq (.int .i64 b.size) (.int .i64 b.size)) && ((V.beq (.int .i64 b.silent) (.int .i64 b.silent)) && ((V.beq (.int .i64 a.silent) (.int .i64 a.silent)) && true))))) = true) (
.ob (dLow [.int .i64 (wrapK .i64 (Nat.land (bitsK .i64 a.silent) (bitsK .i64 b.silent)))]) (
.ob (((V.beq (.int .i64 b.wait) (.int .i64 b.wait)) && ((V.beq (.int .i64 b.win) (.int .i64 b.win)) && ((V.beq (.int .i64 b.size) (.int .i64 b.size)) && true))) = true) (
.ob (dSil [.int .i64 (loL (wrapK .i64 (Nat.land (bitsK .i64 a.silent) (bitsK .i64 b.silent))))]) (
.ob (pSil [.int .i64 (loL (wrapK .i64 (Nat.land (bitsK .i64 a.silent) (bitsK .i64 b.silent))))] = (.int .i64 200)) (
.ob (((V.beq (.int .i64 b.wait) (.int .i64 b.wait)) && ((V.beq (.int .i64 b.win) (.int .i64 b.win)) && ((V.beq (.int .i64 b.size) (.int .i64 b.size)) && true))) = true) (
.ob (dHigh [.int .i64 b.size]) (
.ob (((V.beq (.int .i64 b.wait) (.int .i64 b.wait)) && ((V.beq (.int .i64 b.win) (.int .i64 b.win)) && true)) = true) (
.ob (dBaud [.int .i64 (hiL b.size)]) (
.ob (((V.beq (.int .i64 b.wait) (.int .i64 b.wait)) && ((V.beq (.int .i64 b.win) (.int .i64 b.win)) && true)) = true) (
.ob (dHigh [.int .i64 b.win]) (
.ob (((V.beq (.int .i64 b.wait) (.int .i64 b.wait)) && true) = true) (
.ob (binV .add (.int .i64 (hiL b.win)) (.int .i64 1) = some (.int .i64 3)) (
.ob (dLow [.int .i64 b.wait]) (
.ob (dFrame [.int .i64 (sizeL (hiL b.size)), .int .i64 (baudL (hiL (wrapK .i64 (Nat.land (bitsK .i64 a.baud) (bitsK .i64 b.baud)))))]) (
.ob (((V.beq (.int .i64 3) (.int .i64 3)) && true) = true) (
.ob (binV .gtr (.int .i64 (wrapK .i64 (3 * (frameL (sizeL (hiL b.size)) (baudL (hiL (wrapK .i64 (Nat.land (bitsK .i64 a.baud) (bitsK .i64 b.baud))))))))) (.int .i64 30) = some (.bool false)) (
.leaf (.tup [.agg [.int .i64 (baudL (hiL (wrapK .i64 (Nat.land (bitsK .i64 a.baud) (bitsK .i64 b.baud))))), .int .i64 200, .int .i64 3, .int .i64 (sizeL (hiL b.size)), .int .i64 (loL b.wait)], .bool true])))))))))))))))))))))))))
set_option maxRecDepth 1000000 in
theorem treeDeal2_eq (a : Gw.Offer) (b : Gw.Offer) : funT (mkXT (noPX) ((consT 86 (gD dFrame pFrame noV) (consT 85 (gD dBaud pSize noV) (consT 83 (gD dSil pSil (fun n => match n with | 35 => some (.int .i64 200) | _ => none)) (consT 81 (gD dBaud pBaud noV) (consT 84 (gDT kT0 kT1 kT2 dLow pLow noV) (consT 82 (gD dHigh pHigh noV) (consT 43 (gD dOff pMayQ (fun n => match n with | 7 => some (.bool true) | _ => none)) noOX))))))))) (mkXP (noPX)) (mkX (noPX) ((consT 86 (gD dFrame pFrame noV) (consT 85 (gD dBaud pSize noV) (consT 83 (gD dSil pSil (fun n => match n with | 35 => some (.int .i64 200) | _ => none)) (consT 81 (gD dBaud pBaud noV) (consT 84 (gDT kT0 kT1 kT2 dLow pLow noV) (consT 82 (gD dHigh pHigh noV) (consT 43 (gD dOff pMayQ (fun n => match n with | 7 => some (.bool true) | _ => none)) noOX))))))))) D (fun _ => noOrc) (fun k => match k with | 47 => [8, 12, 44, 54] | _ => []) 12 (fun k => match k with | 37 => some fun t h => (.int .i64 3, h) | 54 => some fun t h => (.bool false, h) | _ => none) [8, 12, 44, 54] (noLt) (dOf 47) [.agg a.vs, .agg b.vs] (tabH kT0 kT1 kT2 3) (fun v _ => v) = treeDeal2 a b := by kernel_rfl
theorem satDeal2 (a b : Gw.Offer) (ha : MayO a) (hb : MayO b) (hw : hiL b.win = 2) : (treeDeal2 a b).sat fun v => v = .tup [.agg (dealL a b).vs, .bool true] :=
 sat_ob trivial (
sat_ob (may_of ha) (
sat_ob trivial (
sat_ob (may_of hb) (
sat_ob (show 0 ≤ _ ∧ _ < 128 by rw [cbW hb]; have := cbB ha hb; omega) (
sat_ob (by simp [V.beq, V.beqs]) (
sat_ob (show 0 ≤ _ ∧ _ < 4 by rw [cbW hb]; have := cbB ha hb; exact hiL4 (by omega)) (
sat_ob (by simp [V.beq, V.beqs]) (
sat_ob (show 0 ≤ _ ∧ _ < 8 by obtain ⟨n, e1, e2, e3⟩ := slW ha hb; rw [e1]; exact e2) (
sat_ob (by simp [V.beq, V.beqs]) (
sat_ob (show 0 ≤ _ ∧ _ < 3 by obtain ⟨n, e1, e2, e3⟩ := slW ha hb; rw [e1, e3]; decide) (
sat_ob (show V.int .i64 (silL _) = _ by obtain ⟨n, e1, e2, e3⟩ := slW ha hb; rw [e1, e3]; rfl) (
sat_ob (by simp [V.beq, V.beqs]) (
sat_ob (show 0 ≤ _ ∧ _ < 128 by have := hb.z; omega) (
sat_ob (by simp [V.beq, V.beqs]) (
sat_ob (show 0 ≤ _ ∧ _ < 4 by have := hb.z; exact hiL4 (by omega)) (
sat_ob (by simp [V.beq, V.beqs]) (
sat_ob (show 0 ≤ _ ∧ _ < 128 by have := hb.w; omega) (
sat_ob (by simp [V.beq, V.beqs]) (
sat_ob (by rw [hw]; rfl) (
sat_ob (show 0 ≤ _ ∧ _ < 8 by have := hb.t; omega) (
sat_ob (fr_dom (by have := hb.z; exact hiL4 (by omega)) (by rw [cbW hb]; have := cbB ha hb; exact hiL4 (by omega))) (
sat_ob (by simp [V.beq, V.beqs]) (
sat_ob (gtrF (by rw [cbW hb]; have := HF ha hb; omega)) (
sat_leaf (by simp only [dealL, Gw.Deal.vs, cbW hb, hw, vi]; rw [winI (by have := HF ha hb; omega)]; rfl)))))))))))))))))))))))))
theorem tabDeal2 : TabX Tryz.prog noPX ((consT 86 (gD dFrame pFrame noV) (consT 85 (gD dBaud pSize noV) (consT 83 (gD dSil pSil (fun n => match n with | 35 => some (.int .i64 200) | _ => none)) (consT 81 (gD dBaud pBaud noV) (consT 84 (gDT kT0 kT1 kT2 dLow pLow noV) (consT 82 (gD dHigh pHigh noV) (consT 43 (gD dOff pMayQ (fun n => match n with | 7 => some (.bool true) | _ => none)) noOX)))))))) := (((((((TabX.nil.addT (ans_may (fun n => match n with | 7 => some (.bool true) | _ => none))).addT (ans_high noV)).addT (ans_low noV)).addT (ans_baud noV)).addT (ans_silent (fun n => match n with | 35 => some (.int .i64 200) | _ => none))).addT (ans_size noV)).addT (ans_frame noV))
def treeDeal3 (a : Gw.Offer) (b : Gw.Offer) : DT V :=
  .ob (dOff [.agg [.int .i64 a.baud, .int .i64 a.silent, .int .i64 a.win, .int .i64 a.size, .int .i64 a.wait]]) (
.ob (pMayQ [.agg [.int .i64 a.baud, .int .i64 a.silent, .int .i64 a.win, .int .i64 a.size, .int .i64 a.wait]] = (.bool true)) (
.ob (dOff [.agg [.int .i64 b.baud, .int .i64 b.silent, .int .i64 b.win, .int .i64 b.size, .int .i64 b.wait]]) (
.ob (pMayQ [.agg [.int .i64 b.baud, .int .i64 b.silent, .int .i64 b.win, .int .i64 b.size, .int .i64 b.wait]] = (.bool true)) (
.ob (dHigh [.int .i64 (wrapK .i64 (Nat.land (bitsK .i64 a.baud) (bitsK .i64 b.baud)))]) (
.ob (((V.beq (.int .i64 b.wait) (.int .i64 b.wait)) && ((V.beq (.int .i64 b.win) (.int .i64 b.win)) && ((V.beq (.int .i64 b.size) (.int .i64 b.size)) && ((V.beq (.int .i64 b.silent) (.int .i64 b.silent)) && ((V.beq (.int .i64 a.silent) (.int .i64 a.silent)) && true))))) = true) (
.ob (dBaud [.int .i64 (hiL (wrapK .i64 (Nat.land (bitsK .i64 a.baud) (bitsK .i64 b.baud))))]) (
.ob (((V.beq (.int .i64 b.wait) (.int .i64 b.wait)) && ((V.beq (.int .i64 b.win) (.int .i64 b.win)) && ((V.beq (.int .i64 b.size) (.int .i64 b.size)) && ((V.beq (.int .i64 b.silent) (.int .i64 b.silent)) && ((V.beq (.int .i64 a.silent) (.int .i64 a.silent)) && true))))) = true) (
.ob (dLow [.int .i64 (wrapK .i64 (Nat.land (bitsK .i64 a.silent) (bitsK .i64 b.silent)))]) (
.ob (((V.beq (.int .i64 b.wait) (.int .i64 b.wait)) && ((V.beq (.int .i64 b.win) (.int .i64 b.win)) && ((V.beq (.int .i64 b.size) (.int .i64 b.size)) && true))) = true) (
.ob (dSil [.int .i64 (loL (wrapK .i64 (Nat.land (bitsK .i64 a.silent) (bitsK .i64 b.silent))))]) (
.ob (pSil [.int .i64 (loL (wrapK .i64 (Nat.land (bitsK .i64 a.silent) (bitsK .i64 b.silent))))] = (.int .i64 200)) (
.ob (((V.beq (.int .i64 b.wait) (.int .i64 b.wait)) && ((V.beq (.int .i64 b.win) (.int .i64 b.win)) && ((V.beq (.int .i64 b.size) (.int .i64 b.size)) && true))) = true) (
.ob (dHigh [.int .i64 b.size]) (
.ob (((V.beq (.int .i64 b.wait) (.int .i64 b.wait)) && ((V.beq (.int .i64 b.win) (.int .i64 b.win)) && true)) = true) (
.ob (dBaud [.int .i64 (hiL b.size)]) (
.ob (((V.beq (.int .i64 b.wait) (.int .i64 b.wait)) && ((V.beq (.int .i64 b.win) (.int .i64 b.win)) && true)) = true) (
.ob (dHigh [.int .i64 b.win]) (
.ob (((V.beq (.int .i64 b.wait) (.int .i64 b.wait)) && true) = true) (
.ob (binV .add (.int .i64 (hiL b.win)) (.int .i64 1) = some (.int .i64 4)) (
.ob (dLow [.int .i64 b.wait]) (
.ob (dFrame [.int .i64 (sizeL (hiL b.size)), .int .i64 (baudL (hiL (wrapK .i64 (Nat.land (bitsK .i64 a.baud) (bitsK .i64 b.baud)))))]) (
.ob (((V.beq (.int .i64 4) (.int .i64 4)) && true) = true) (
.ob (binV .gtr (.int .i64 (wrapK .i64 (4 * (frameL (sizeL (hiL b.size)) (baudL (hiL (wrapK .i64 (Nat.land (bitsK .i64 a.baud) (bitsK .i64 b.baud))))))))) (.int .i64 30) = some (.bool false)) (
.leaf (.tup [.agg [.int .i64 (baudL (hiL (wrapK .i64 (Nat.land (bitsK .i64 a.baud) (bitsK .i64 b.baud))))), .int .i64 200, .int .i64 4, .int .i64 (sizeL (hiL b.size)), .int .i64 (loL b.wait)], .bool true])))))))))))))))))))))))))
set_option maxRecDepth 1000000 in
theorem treeDeal3_eq (a : Gw.Offer) (b : Gw.Offer) : funT (mkXT (noPX) ((consT 86 (gD dFrame pFrame noV) (consT 85 (gD dBaud pSize noV) (consT 83 (gD dSil pSil (fun n => match n with | 35 => some (.int .i64 200) | _ => none)) (consT 81 (gD dBaud pBaud noV) (consT 84 (gDT kT0 kT1 kT2 dLow pLow noV) (consT 82 (gD dHigh pHigh noV) (consT 43 (gD dOff pMayQ (fun n => match n with | 7 => some (.bool true) | _ => none)) noOX))))))))) (mkXP (noPX)) (mkX (noPX) ((consT 86 (gD dFrame pFrame noV) (consT 85 (gD dBaud pSize noV) (consT 83 (gD dSil pSil (fun n => match n with | 35 => some (.int .i64 200) | _ => none)) (consT 81 (gD dBaud pBaud noV) (consT 84 (gDT kT0 kT1 kT2 dLow pLow noV) (consT 82 (gD dHigh pHigh noV) (consT 43 (gD dOff pMayQ (fun n => match n with | 7 => some (.bool true) | _ => none)) noOX))))))))) D (fun _ => noOrc) (fun k => match k with | 47 => [8, 12, 44, 54] | _ => []) 12 (fun k => match k with | 37 => some fun t h => (.int .i64 4, h) | 54 => some fun t h => (.bool false, h) | _ => none) [8, 12, 44, 54] (noLt) (dOf 47) [.agg a.vs, .agg b.vs] (tabH kT0 kT1 kT2 3) (fun v _ => v) = treeDeal3 a b := by kernel_rfl
theorem satDeal3 (a b : Gw.Offer) (ha : MayO a) (hb : MayO b) (hw : hiL b.win = 3) : (treeDeal3 a b).sat fun v => v = .tup [.agg (dealL a b).vs, .bool true] :=
 sat_ob trivial (
sat_ob (may_of ha) (
sat_ob trivial (
sat_ob (may_of hb) (
sat_ob (show 0 ≤ _ ∧ _ < 128 by rw [cbW hb]; have := cbB ha hb; omega) (
sat_ob (by simp [V.beq, V.beqs]) (
sat_ob (show 0 ≤ _ ∧ _ < 4 by rw [cbW hb]; have := cbB ha hb; exact hiL4 (by omega)) (
sat_ob (by simp [V.beq, V.beqs]) (
sat_ob (show 0 ≤ _ ∧ _ < 8 by obtain ⟨n, e1, e2, e3⟩ := slW ha hb; rw [e1]; exact e2) (
sat_ob (by simp [V.beq, V.beqs]) (
sat_ob (show 0 ≤ _ ∧ _ < 3 by obtain ⟨n, e1, e2, e3⟩ := slW ha hb; rw [e1, e3]; decide) (
sat_ob (show V.int .i64 (silL _) = _ by obtain ⟨n, e1, e2, e3⟩ := slW ha hb; rw [e1, e3]; rfl) (
sat_ob (by simp [V.beq, V.beqs]) (
sat_ob (show 0 ≤ _ ∧ _ < 128 by have := hb.z; omega) (
sat_ob (by simp [V.beq, V.beqs]) (
sat_ob (show 0 ≤ _ ∧ _ < 4 by have := hb.z; exact hiL4 (by omega)) (
sat_ob (by simp [V.beq, V.beqs]) (
sat_ob (show 0 ≤ _ ∧ _ < 128 by have := hb.w; omega) (
sat_ob (by simp [V.beq, V.beqs]) (
sat_ob (by rw [hw]; rfl) (
sat_ob (show 0 ≤ _ ∧ _ < 8 by have := hb.t; omega) (
sat_ob (fr_dom (by have := hb.z; exact hiL4 (by omega)) (by rw [cbW hb]; have := cbB ha hb; exact hiL4 (by omega))) (
sat_ob (by simp [V.beq, V.beqs]) (
sat_ob (gtrF (by rw [cbW hb]; have := HF ha hb; omega)) (
sat_leaf (by simp only [dealL, Gw.Deal.vs, cbW hb, hw, vi]; rw [winI (by have := HF ha hb; omega)]; rfl)))))))))))))))))))))))))
theorem tabDeal3 : TabX Tryz.prog noPX ((consT 86 (gD dFrame pFrame noV) (consT 85 (gD dBaud pSize noV) (consT 83 (gD dSil pSil (fun n => match n with | 35 => some (.int .i64 200) | _ => none)) (consT 81 (gD dBaud pBaud noV) (consT 84 (gDT kT0 kT1 kT2 dLow pLow noV) (consT 82 (gD dHigh pHigh noV) (consT 43 (gD dOff pMayQ (fun n => match n with | 7 => some (.bool true) | _ => none)) noOX)))))))) := (((((((TabX.nil.addT (ans_may (fun n => match n with | 7 => some (.bool true) | _ => none))).addT (ans_high noV)).addT (ans_low noV)).addT (ans_baud noV)).addT (ans_silent (fun n => match n with | 35 => some (.int .i64 200) | _ => none))).addT (ans_size noV)).addT (ans_frame noV))
def treeDeal4 (a : Gw.Offer) (b : Gw.Offer) : DT V :=
  .ob (dOff [.agg [.int .i64 a.baud, .int .i64 a.silent, .int .i64 a.win, .int .i64 a.size, .int .i64 a.wait]]) (
.ob (pMayQ [.agg [.int .i64 a.baud, .int .i64 a.silent, .int .i64 a.win, .int .i64 a.size, .int .i64 a.wait]] = (.bool true)) (
.ob (dOff [.agg [.int .i64 b.baud, .int .i64 b.silent, .int .i64 b.win, .int .i64 b.size, .int .i64 b.wait]]) (
.ob (pMayQ [.agg [.int .i64 b.baud, .int .i64 b.silent, .int .i64 b.win, .int .i64 b.size, .int .i64 b.wait]] = (.bool true)) (
.ob (dHigh [.int .i64 (wrapK .i64 (Nat.land (bitsK .i64 a.baud) (bitsK .i64 b.baud)))]) (
.ob (((V.beq (.int .i64 b.wait) (.int .i64 b.wait)) && ((V.beq (.int .i64 b.win) (.int .i64 b.win)) && ((V.beq (.int .i64 b.size) (.int .i64 b.size)) && ((V.beq (.int .i64 b.silent) (.int .i64 b.silent)) && ((V.beq (.int .i64 a.silent) (.int .i64 a.silent)) && true))))) = true) (
.ob (dBaud [.int .i64 (hiL (wrapK .i64 (Nat.land (bitsK .i64 a.baud) (bitsK .i64 b.baud))))]) (
.ob (((V.beq (.int .i64 b.wait) (.int .i64 b.wait)) && ((V.beq (.int .i64 b.win) (.int .i64 b.win)) && ((V.beq (.int .i64 b.size) (.int .i64 b.size)) && ((V.beq (.int .i64 b.silent) (.int .i64 b.silent)) && ((V.beq (.int .i64 a.silent) (.int .i64 a.silent)) && true))))) = true) (
.ob (dLow [.int .i64 (wrapK .i64 (Nat.land (bitsK .i64 a.silent) (bitsK .i64 b.silent)))]) (
.ob (((V.beq (.int .i64 b.wait) (.int .i64 b.wait)) && ((V.beq (.int .i64 b.win) (.int .i64 b.win)) && ((V.beq (.int .i64 b.size) (.int .i64 b.size)) && true))) = true) (
.ob (dSil [.int .i64 (loL (wrapK .i64 (Nat.land (bitsK .i64 a.silent) (bitsK .i64 b.silent))))]) (
.ob (pSil [.int .i64 (loL (wrapK .i64 (Nat.land (bitsK .i64 a.silent) (bitsK .i64 b.silent))))] = (.int .i64 200)) (
.ob (((V.beq (.int .i64 b.wait) (.int .i64 b.wait)) && ((V.beq (.int .i64 b.win) (.int .i64 b.win)) && ((V.beq (.int .i64 b.size) (.int .i64 b.size)) && true))) = true) (
.ob (dHigh [.int .i64 b.size]) (
.ob (((V.beq (.int .i64 b.wait) (.int .i64 b.wait)) && ((V.beq (.int .i64 b.win) (.int .i64 b.win)) && true)) = true) (
.ob (dBaud [.int .i64 (hiL b.size)]) (
.ob (((V.beq (.int .i64 b.wait) (.int .i64 b.wait)) && ((V.beq (.int .i64 b.win) (.int .i64 b.win)) && true)) = true) (
.ob (dHigh [.int .i64 b.win]) (
.ob (((V.beq (.int .i64 b.wait) (.int .i64 b.wait)) && true) = true) (
.ob (binV .add (.int .i64 (hiL b.win)) (.int .i64 1) = some (.int .i64 5)) (
.ob (dLow [.int .i64 b.wait]) (
.ob (dFrame [.int .i64 (sizeL (hiL b.size)), .int .i64 (baudL (hiL (wrapK .i64 (Nat.land (bitsK .i64 a.baud) (bitsK .i64 b.baud)))))]) (
.ob (((V.beq (.int .i64 5) (.int .i64 5)) && true) = true) (
.ob (binV .gtr (.int .i64 (wrapK .i64 (5 * (frameL (sizeL (hiL b.size)) (baudL (hiL (wrapK .i64 (Nat.land (bitsK .i64 a.baud) (bitsK .i64 b.baud))))))))) (.int .i64 30) = some (.bool false)) (
.leaf (.tup [.agg [.int .i64 (baudL (hiL (wrapK .i64 (Nat.land (bitsK .i64 a.baud) (bitsK .i64 b.baud))))), .int .i64 200, .int .i64 5, .int .i64 (sizeL (hiL b.size)), .int .i64 (loL b.wait)], .bool true])))))))))))))))))))))))))
set_option maxRecDepth 1000000 in
theorem treeDeal4_eq (a : Gw.Offer) (b : Gw.Offer) : funT (mkXT (noPX) ((consT 86 (gD dFrame pFrame noV) (consT 85 (gD dBaud pSize noV) (consT 83 (gD dSil pSil (fun n => match n with | 35 => some (.int .i64 200) | _ => none)) (consT 81 (gD dBaud pBaud noV) (consT 84 (gDT kT0 kT1 kT2 dLow pLow noV) (consT 82 (gD dHigh pHigh noV) (consT 43 (gD dOff pMayQ (fun n => match n with | 7 => some (.bool true) | _ => none)) noOX))))))))) (mkXP (noPX)) (mkX (noPX) ((consT 86 (gD dFrame pFrame noV) (consT 85 (gD dBaud pSize noV) (consT 83 (gD dSil pSil (fun n => match n with | 35 => some (.int .i64 200) | _ => none)) (consT 81 (gD dBaud pBaud noV) (consT 84 (gDT kT0 kT1 kT2 dLow pLow noV) (consT 82 (gD dHigh pHigh noV) (consT 43 (gD dOff pMayQ (fun n => match n with | 7 => some (.bool true) | _ => none)) noOX))))))))) D (fun _ => noOrc) (fun k => match k with | 47 => [8, 12, 44, 54] | _ => []) 12 (fun k => match k with | 37 => some fun t h => (.int .i64 5, h) | 54 => some fun t h => (.bool false, h) | _ => none) [8, 12, 44, 54] (noLt) (dOf 47) [.agg a.vs, .agg b.vs] (tabH kT0 kT1 kT2 3) (fun v _ => v) = treeDeal4 a b := by kernel_rfl
theorem satDeal4 (a b : Gw.Offer) (ha : MayO a) (hb : MayO b) (hw : hiL b.win = 4) : (treeDeal4 a b).sat fun v => v = .tup [.agg (dealL a b).vs, .bool true] :=
 sat_ob trivial (
sat_ob (may_of ha) (
sat_ob trivial (
sat_ob (may_of hb) (
sat_ob (show 0 ≤ _ ∧ _ < 128 by rw [cbW hb]; have := cbB ha hb; omega) (
sat_ob (by simp [V.beq, V.beqs]) (
sat_ob (show 0 ≤ _ ∧ _ < 4 by rw [cbW hb]; have := cbB ha hb; exact hiL4 (by omega)) (
sat_ob (by simp [V.beq, V.beqs]) (
sat_ob (show 0 ≤ _ ∧ _ < 8 by obtain ⟨n, e1, e2, e3⟩ := slW ha hb; rw [e1]; exact e2) (
sat_ob (by simp [V.beq, V.beqs]) (
sat_ob (show 0 ≤ _ ∧ _ < 3 by obtain ⟨n, e1, e2, e3⟩ := slW ha hb; rw [e1, e3]; decide) (
sat_ob (show V.int .i64 (silL _) = _ by obtain ⟨n, e1, e2, e3⟩ := slW ha hb; rw [e1, e3]; rfl) (
sat_ob (by simp [V.beq, V.beqs]) (
sat_ob (show 0 ≤ _ ∧ _ < 128 by have := hb.z; omega) (
sat_ob (by simp [V.beq, V.beqs]) (
sat_ob (show 0 ≤ _ ∧ _ < 4 by have := hb.z; exact hiL4 (by omega)) (
sat_ob (by simp [V.beq, V.beqs]) (
sat_ob (show 0 ≤ _ ∧ _ < 128 by have := hb.w; omega) (
sat_ob (by simp [V.beq, V.beqs]) (
sat_ob (by rw [hw]; rfl) (
sat_ob (show 0 ≤ _ ∧ _ < 8 by have := hb.t; omega) (
sat_ob (fr_dom (by have := hb.z; exact hiL4 (by omega)) (by rw [cbW hb]; have := cbB ha hb; exact hiL4 (by omega))) (
sat_ob (by simp [V.beq, V.beqs]) (
sat_ob (gtrF (by rw [cbW hb]; have := HF ha hb; omega)) (
sat_leaf (by simp only [dealL, Gw.Deal.vs, cbW hb, hw, vi]; rw [winI (by have := HF ha hb; omega)]; rfl)))))))))))))))))))))))))
theorem tabDeal4 : TabX Tryz.prog noPX ((consT 86 (gD dFrame pFrame noV) (consT 85 (gD dBaud pSize noV) (consT 83 (gD dSil pSil (fun n => match n with | 35 => some (.int .i64 200) | _ => none)) (consT 81 (gD dBaud pBaud noV) (consT 84 (gDT kT0 kT1 kT2 dLow pLow noV) (consT 82 (gD dHigh pHigh noV) (consT 43 (gD dOff pMayQ (fun n => match n with | 7 => some (.bool true) | _ => none)) noOX)))))))) := (((((((TabX.nil.addT (ans_may (fun n => match n with | 7 => some (.bool true) | _ => none))).addT (ans_high noV)).addT (ans_low noV)).addT (ans_baud noV)).addT (ans_silent (fun n => match n with | 35 => some (.int .i64 200) | _ => none))).addT (ans_size noV)).addT (ans_frame noV))
def treeDeal5 (a : Gw.Offer) (b : Gw.Offer) : DT V :=
  .ob (dOff [.agg [.int .i64 a.baud, .int .i64 a.silent, .int .i64 a.win, .int .i64 a.size, .int .i64 a.wait]]) (
.ob (pMayQ [.agg [.int .i64 a.baud, .int .i64 a.silent, .int .i64 a.win, .int .i64 a.size, .int .i64 a.wait]] = (.bool true)) (
.ob (dOff [.agg [.int .i64 b.baud, .int .i64 b.silent, .int .i64 b.win, .int .i64 b.size, .int .i64 b.wait]]) (
.ob (pMayQ [.agg [.int .i64 b.baud, .int .i64 b.silent, .int .i64 b.win, .int .i64 b.size, .int .i64 b.wait]] = (.bool true)) (
.ob (dHigh [.int .i64 (wrapK .i64 (Nat.land (bitsK .i64 a.baud) (bitsK .i64 b.baud)))]) (
.ob (((V.beq (.int .i64 b.wait) (.int .i64 b.wait)) && ((V.beq (.int .i64 b.win) (.int .i64 b.win)) && ((V.beq (.int .i64 b.size) (.int .i64 b.size)) && ((V.beq (.int .i64 b.silent) (.int .i64 b.silent)) && ((V.beq (.int .i64 a.silent) (.int .i64 a.silent)) && true))))) = true) (
.ob (dBaud [.int .i64 (hiL (wrapK .i64 (Nat.land (bitsK .i64 a.baud) (bitsK .i64 b.baud))))]) (
.ob (((V.beq (.int .i64 b.wait) (.int .i64 b.wait)) && ((V.beq (.int .i64 b.win) (.int .i64 b.win)) && ((V.beq (.int .i64 b.size) (.int .i64 b.size)) && ((V.beq (.int .i64 b.silent) (.int .i64 b.silent)) && ((V.beq (.int .i64 a.silent) (.int .i64 a.silent)) && true))))) = true) (
.ob (dLow [.int .i64 (wrapK .i64 (Nat.land (bitsK .i64 a.silent) (bitsK .i64 b.silent)))]) (
.ob (((V.beq (.int .i64 b.wait) (.int .i64 b.wait)) && ((V.beq (.int .i64 b.win) (.int .i64 b.win)) && ((V.beq (.int .i64 b.size) (.int .i64 b.size)) && true))) = true) (
.ob (dSil [.int .i64 (loL (wrapK .i64 (Nat.land (bitsK .i64 a.silent) (bitsK .i64 b.silent))))]) (
.ob (pSil [.int .i64 (loL (wrapK .i64 (Nat.land (bitsK .i64 a.silent) (bitsK .i64 b.silent))))] = (.int .i64 200)) (
.ob (((V.beq (.int .i64 b.wait) (.int .i64 b.wait)) && ((V.beq (.int .i64 b.win) (.int .i64 b.win)) && ((V.beq (.int .i64 b.size) (.int .i64 b.size)) && true))) = true) (
.ob (dHigh [.int .i64 b.size]) (
.ob (((V.beq (.int .i64 b.wait) (.int .i64 b.wait)) && ((V.beq (.int .i64 b.win) (.int .i64 b.win)) && true)) = true) (
.ob (dBaud [.int .i64 (hiL b.size)]) (
.ob (((V.beq (.int .i64 b.wait) (.int .i64 b.wait)) && ((V.beq (.int .i64 b.win) (.int .i64 b.win)) && true)) = true) (
.ob (dHigh [.int .i64 b.win]) (
.ob (((V.beq (.int .i64 b.wait) (.int .i64 b.wait)) && true) = true) (
.ob (binV .add (.int .i64 (hiL b.win)) (.int .i64 1) = some (.int .i64 6)) (
.ob (dLow [.int .i64 b.wait]) (
.ob (dFrame [.int .i64 (sizeL (hiL b.size)), .int .i64 (baudL (hiL (wrapK .i64 (Nat.land (bitsK .i64 a.baud) (bitsK .i64 b.baud)))))]) (
.ob (((V.beq (.int .i64 6) (.int .i64 6)) && true) = true) (
.ob (binV .gtr (.int .i64 (wrapK .i64 (6 * (frameL (sizeL (hiL b.size)) (baudL (hiL (wrapK .i64 (Nat.land (bitsK .i64 a.baud) (bitsK .i64 b.baud))))))))) (.int .i64 30) = some (.bool false)) (
.leaf (.tup [.agg [.int .i64 (baudL (hiL (wrapK .i64 (Nat.land (bitsK .i64 a.baud) (bitsK .i64 b.baud))))), .int .i64 200, .int .i64 6, .int .i64 (sizeL (hiL b.size)), .int .i64 (loL b.wait)], .bool true])))))))))))))))))))))))))
set_option maxRecDepth 1000000 in
theorem treeDeal5_eq (a : Gw.Offer) (b : Gw.Offer) : funT (mkXT (noPX) ((consT 86 (gD dFrame pFrame noV) (consT 85 (gD dBaud pSize noV) (consT 83 (gD dSil pSil (fun n => match n with | 35 => some (.int .i64 200) | _ => none)) (consT 81 (gD dBaud pBaud noV) (consT 84 (gDT kT0 kT1 kT2 dLow pLow noV) (consT 82 (gD dHigh pHigh noV) (consT 43 (gD dOff pMayQ (fun n => match n with | 7 => some (.bool true) | _ => none)) noOX))))))))) (mkXP (noPX)) (mkX (noPX) ((consT 86 (gD dFrame pFrame noV) (consT 85 (gD dBaud pSize noV) (consT 83 (gD dSil pSil (fun n => match n with | 35 => some (.int .i64 200) | _ => none)) (consT 81 (gD dBaud pBaud noV) (consT 84 (gDT kT0 kT1 kT2 dLow pLow noV) (consT 82 (gD dHigh pHigh noV) (consT 43 (gD dOff pMayQ (fun n => match n with | 7 => some (.bool true) | _ => none)) noOX))))))))) D (fun _ => noOrc) (fun k => match k with | 47 => [8, 12, 44, 54] | _ => []) 12 (fun k => match k with | 37 => some fun t h => (.int .i64 6, h) | 54 => some fun t h => (.bool false, h) | _ => none) [8, 12, 44, 54] (noLt) (dOf 47) [.agg a.vs, .agg b.vs] (tabH kT0 kT1 kT2 3) (fun v _ => v) = treeDeal5 a b := by kernel_rfl
theorem satDeal5 (a b : Gw.Offer) (ha : MayO a) (hb : MayO b) (hw : hiL b.win = 5) : (treeDeal5 a b).sat fun v => v = .tup [.agg (dealL a b).vs, .bool true] :=
 sat_ob trivial (
sat_ob (may_of ha) (
sat_ob trivial (
sat_ob (may_of hb) (
sat_ob (show 0 ≤ _ ∧ _ < 128 by rw [cbW hb]; have := cbB ha hb; omega) (
sat_ob (by simp [V.beq, V.beqs]) (
sat_ob (show 0 ≤ _ ∧ _ < 4 by rw [cbW hb]; have := cbB ha hb; exact hiL4 (by omega)) (
sat_ob (by simp [V.beq, V.beqs]) (
sat_ob (show 0 ≤ _ ∧ _ < 8 by obtain ⟨n, e1, e2, e3⟩ := slW ha hb; rw [e1]; exact e2) (
sat_ob (by simp [V.beq, V.beqs]) (
sat_ob (show 0 ≤ _ ∧ _ < 3 by obtain ⟨n, e1, e2, e3⟩ := slW ha hb; rw [e1, e3]; decide) (
sat_ob (show V.int .i64 (silL _) = _ by obtain ⟨n, e1, e2, e3⟩ := slW ha hb; rw [e1, e3]; rfl) (
sat_ob (by simp [V.beq, V.beqs]) (
sat_ob (show 0 ≤ _ ∧ _ < 128 by have := hb.z; omega) (
sat_ob (by simp [V.beq, V.beqs]) (
sat_ob (show 0 ≤ _ ∧ _ < 4 by have := hb.z; exact hiL4 (by omega)) (
sat_ob (by simp [V.beq, V.beqs]) (
sat_ob (show 0 ≤ _ ∧ _ < 128 by have := hb.w; omega) (
sat_ob (by simp [V.beq, V.beqs]) (
sat_ob (by rw [hw]; rfl) (
sat_ob (show 0 ≤ _ ∧ _ < 8 by have := hb.t; omega) (
sat_ob (fr_dom (by have := hb.z; exact hiL4 (by omega)) (by rw [cbW hb]; have := cbB ha hb; exact hiL4 (by omega))) (
sat_ob (by simp [V.beq, V.beqs]) (
sat_ob (gtrF (by rw [cbW hb]; have := HF ha hb; omega)) (
sat_leaf (by simp only [dealL, Gw.Deal.vs, cbW hb, hw, vi]; rw [winI (by have := HF ha hb; omega)]; rfl)))))))))))))))))))))))))
theorem tabDeal5 : TabX Tryz.prog noPX ((consT 86 (gD dFrame pFrame noV) (consT 85 (gD dBaud pSize noV) (consT 83 (gD dSil pSil (fun n => match n with | 35 => some (.int .i64 200) | _ => none)) (consT 81 (gD dBaud pBaud noV) (consT 84 (gDT kT0 kT1 kT2 dLow pLow noV) (consT 82 (gD dHigh pHigh noV) (consT 43 (gD dOff pMayQ (fun n => match n with | 7 => some (.bool true) | _ => none)) noOX)))))))) := (((((((TabX.nil.addT (ans_may (fun n => match n with | 7 => some (.bool true) | _ => none))).addT (ans_high noV)).addT (ans_low noV)).addT (ans_baud noV)).addT (ans_silent (fun n => match n with | 35 => some (.int .i64 200) | _ => none))).addT (ans_size noV)).addT (ans_frame noV))
def treeDeal6 (a : Gw.Offer) (b : Gw.Offer) : DT V :=
  .ob (dOff [.agg [.int .i64 a.baud, .int .i64 a.silent, .int .i64 a.win, .int .i64 a.size, .int .i64 a.wait]]) (
.ob (pMayQ [.agg [.int .i64 a.baud, .int .i64 a.silent, .int .i64 a.win, .int .i64 a.size, .int .i64 a.wait]] = (.bool true)) (
.ob (dOff [.agg [.int .i64 b.baud, .int .i64 b.silent, .int .i64 b.win, .int .i64 b.size, .int .i64 b.wait]]) (
.ob (pMayQ [.agg [.int .i64 b.baud, .int .i64 b.silent, .int .i64 b.win, .int .i64 b.size, .int .i64 b.wait]] = (.bool true)) (
.ob (dHigh [.int .i64 (wrapK .i64 (Nat.land (bitsK .i64 a.baud) (bitsK .i64 b.baud)))]) (
.ob (((V.beq (.int .i64 b.wait) (.int .i64 b.wait)) && ((V.beq (.int .i64 b.win) (.int .i64 b.win)) && ((V.beq (.int .i64 b.size) (.int .i64 b.size)) && ((V.beq (.int .i64 b.silent) (.int .i64 b.silent)) && ((V.beq (.int .i64 a.silent) (.int .i64 a.silent)) && true))))) = true) (
.ob (dBaud [.int .i64 (hiL (wrapK .i64 (Nat.land (bitsK .i64 a.baud) (bitsK .i64 b.baud))))]) (
.ob (((V.beq (.int .i64 b.wait) (.int .i64 b.wait)) && ((V.beq (.int .i64 b.win) (.int .i64 b.win)) && ((V.beq (.int .i64 b.size) (.int .i64 b.size)) && ((V.beq (.int .i64 b.silent) (.int .i64 b.silent)) && ((V.beq (.int .i64 a.silent) (.int .i64 a.silent)) && true))))) = true) (
.ob (dLow [.int .i64 (wrapK .i64 (Nat.land (bitsK .i64 a.silent) (bitsK .i64 b.silent)))]) (
.ob (((V.beq (.int .i64 b.wait) (.int .i64 b.wait)) && ((V.beq (.int .i64 b.win) (.int .i64 b.win)) && ((V.beq (.int .i64 b.size) (.int .i64 b.size)) && true))) = true) (
.ob (dSil [.int .i64 (loL (wrapK .i64 (Nat.land (bitsK .i64 a.silent) (bitsK .i64 b.silent))))]) (
.ob (pSil [.int .i64 (loL (wrapK .i64 (Nat.land (bitsK .i64 a.silent) (bitsK .i64 b.silent))))] = (.int .i64 200)) (
.ob (((V.beq (.int .i64 b.wait) (.int .i64 b.wait)) && ((V.beq (.int .i64 b.win) (.int .i64 b.win)) && ((V.beq (.int .i64 b.size) (.int .i64 b.size)) && true))) = true) (
.ob (dHigh [.int .i64 b.size]) (
.ob (((V.beq (.int .i64 b.wait) (.int .i64 b.wait)) && ((V.beq (.int .i64 b.win) (.int .i64 b.win)) && true)) = true) (
.ob (dBaud [.int .i64 (hiL b.size)]) (
.ob (((V.beq (.int .i64 b.wait) (.int .i64 b.wait)) && ((V.beq (.int .i64 b.win) (.int .i64 b.win)) && true)) = true) (
.ob (dHigh [.int .i64 b.win]) (
.ob (((V.beq (.int .i64 b.wait) (.int .i64 b.wait)) && true) = true) (
.ob (binV .add (.int .i64 (hiL b.win)) (.int .i64 1) = some (.int .i64 7)) (
.ob (dLow [.int .i64 b.wait]) (
.ob (dFrame [.int .i64 (sizeL (hiL b.size)), .int .i64 (baudL (hiL (wrapK .i64 (Nat.land (bitsK .i64 a.baud) (bitsK .i64 b.baud)))))]) (
.ob (((V.beq (.int .i64 7) (.int .i64 7)) && true) = true) (
.ob (binV .gtr (.int .i64 (wrapK .i64 (7 * (frameL (sizeL (hiL b.size)) (baudL (hiL (wrapK .i64 (Nat.land (bitsK .i64 a.baud) (bitsK .i64 b.baud))))))))) (.int .i64 30) = some (.bool false)) (
.leaf (.tup [.agg [.int .i64 (baudL (hiL (wrapK .i64 (Nat.land (bitsK .i64 a.baud) (bitsK .i64 b.baud))))), .int .i64 200, .int .i64 7, .int .i64 (sizeL (hiL b.size)), .int .i64 (loL b.wait)], .bool true])))))))))))))))))))))))))
set_option maxRecDepth 1000000 in
theorem treeDeal6_eq (a : Gw.Offer) (b : Gw.Offer) : funT (mkXT (noPX) ((consT 86 (gD dFrame pFrame noV) (consT 85 (gD dBaud pSize noV) (consT 83 (gD dSil pSil (fun n => match n with | 35 => some (.int .i64 200) | _ => none)) (consT 81 (gD dBaud pBaud noV) (consT 84 (gDT kT0 kT1 kT2 dLow pLow noV) (consT 82 (gD dHigh pHigh noV) (consT 43 (gD dOff pMayQ (fun n => match n with | 7 => some (.bool true) | _ => none)) noOX))))))))) (mkXP (noPX)) (mkX (noPX) ((consT 86 (gD dFrame pFrame noV) (consT 85 (gD dBaud pSize noV) (consT 83 (gD dSil pSil (fun n => match n with | 35 => some (.int .i64 200) | _ => none)) (consT 81 (gD dBaud pBaud noV) (consT 84 (gDT kT0 kT1 kT2 dLow pLow noV) (consT 82 (gD dHigh pHigh noV) (consT 43 (gD dOff pMayQ (fun n => match n with | 7 => some (.bool true) | _ => none)) noOX))))))))) D (fun _ => noOrc) (fun k => match k with | 47 => [8, 12, 44, 54] | _ => []) 12 (fun k => match k with | 37 => some fun t h => (.int .i64 7, h) | 54 => some fun t h => (.bool false, h) | _ => none) [8, 12, 44, 54] (noLt) (dOf 47) [.agg a.vs, .agg b.vs] (tabH kT0 kT1 kT2 3) (fun v _ => v) = treeDeal6 a b := by kernel_rfl
theorem satDeal6 (a b : Gw.Offer) (ha : MayO a) (hb : MayO b) (hw : hiL b.win = 6) (hf : frameL (sizeL (hiL b.size)) (baudL (hiL (cbaud a b))) ≤ 4) : (treeDeal6 a b).sat fun v => v = .tup [.agg (dealL a b).vs, .bool true] :=
 sat_ob trivial (
sat_ob (may_of ha) (
sat_ob trivial (
sat_ob (may_of hb) (
sat_ob (show 0 ≤ _ ∧ _ < 128 by rw [cbW hb]; have := cbB ha hb; omega) (
sat_ob (by simp [V.beq, V.beqs]) (
sat_ob (show 0 ≤ _ ∧ _ < 4 by rw [cbW hb]; have := cbB ha hb; exact hiL4 (by omega)) (
sat_ob (by simp [V.beq, V.beqs]) (
sat_ob (show 0 ≤ _ ∧ _ < 8 by obtain ⟨n, e1, e2, e3⟩ := slW ha hb; rw [e1]; exact e2) (
sat_ob (by simp [V.beq, V.beqs]) (
sat_ob (show 0 ≤ _ ∧ _ < 3 by obtain ⟨n, e1, e2, e3⟩ := slW ha hb; rw [e1, e3]; decide) (
sat_ob (show V.int .i64 (silL _) = _ by obtain ⟨n, e1, e2, e3⟩ := slW ha hb; rw [e1, e3]; rfl) (
sat_ob (by simp [V.beq, V.beqs]) (
sat_ob (show 0 ≤ _ ∧ _ < 128 by have := hb.z; omega) (
sat_ob (by simp [V.beq, V.beqs]) (
sat_ob (show 0 ≤ _ ∧ _ < 4 by have := hb.z; exact hiL4 (by omega)) (
sat_ob (by simp [V.beq, V.beqs]) (
sat_ob (show 0 ≤ _ ∧ _ < 128 by have := hb.w; omega) (
sat_ob (by simp [V.beq, V.beqs]) (
sat_ob (by rw [hw]; rfl) (
sat_ob (show 0 ≤ _ ∧ _ < 8 by have := hb.t; omega) (
sat_ob (fr_dom (by have := hb.z; exact hiL4 (by omega)) (by rw [cbW hb]; have := cbB ha hb; exact hiL4 (by omega))) (
sat_ob (by simp [V.beq, V.beqs]) (
sat_ob (gtrF (by rw [cbW hb]; have := HF ha hb; omega)) (
sat_leaf (by simp only [dealL, Gw.Deal.vs, cbW hb, hw, vi]; rw [winI (by have := HF ha hb; omega)]; rfl)))))))))))))))))))))))))
theorem tabDeal6 : TabX Tryz.prog noPX ((consT 86 (gD dFrame pFrame noV) (consT 85 (gD dBaud pSize noV) (consT 83 (gD dSil pSil (fun n => match n with | 35 => some (.int .i64 200) | _ => none)) (consT 81 (gD dBaud pBaud noV) (consT 84 (gDT kT0 kT1 kT2 dLow pLow noV) (consT 82 (gD dHigh pHigh noV) (consT 43 (gD dOff pMayQ (fun n => match n with | 7 => some (.bool true) | _ => none)) noOX)))))))) := (((((((TabX.nil.addT (ans_may (fun n => match n with | 7 => some (.bool true) | _ => none))).addT (ans_high noV)).addT (ans_low noV)).addT (ans_baud noV)).addT (ans_silent (fun n => match n with | 35 => some (.int .i64 200) | _ => none))).addT (ans_size noV)).addT (ans_frame noV))
def treeDeal7 (a : Gw.Offer) (b : Gw.Offer) : DT V :=
  .ob (dOff [.agg [.int .i64 a.baud, .int .i64 a.silent, .int .i64 a.win, .int .i64 a.size, .int .i64 a.wait]]) (
.ob (pMayQ [.agg [.int .i64 a.baud, .int .i64 a.silent, .int .i64 a.win, .int .i64 a.size, .int .i64 a.wait]] = (.bool true)) (
.ob (dOff [.agg [.int .i64 b.baud, .int .i64 b.silent, .int .i64 b.win, .int .i64 b.size, .int .i64 b.wait]]) (
.ob (pMayQ [.agg [.int .i64 b.baud, .int .i64 b.silent, .int .i64 b.win, .int .i64 b.size, .int .i64 b.wait]] = (.bool true)) (
.ob (binV .and (.int .i64 a.baud) (.int .i64 b.baud) = some (.int .i64 1)) (
.ob (dHigh [.int .i64 1]) (
.ob (((V.beq (.int .i64 b.wait) (.int .i64 b.wait)) && ((V.beq (.int .i64 b.win) (.int .i64 b.win)) && ((V.beq (.int .i64 b.size) (.int .i64 b.size)) && ((V.beq (.int .i64 b.silent) (.int .i64 b.silent)) && ((V.beq (.int .i64 a.silent) (.int .i64 a.silent)) && true))))) = true) (
.ob (dBaud [.int .i64 (hiL 1)]) (
.ob (((V.beq (.int .i64 b.wait) (.int .i64 b.wait)) && ((V.beq (.int .i64 b.win) (.int .i64 b.win)) && ((V.beq (.int .i64 b.size) (.int .i64 b.size)) && ((V.beq (.int .i64 b.silent) (.int .i64 b.silent)) && ((V.beq (.int .i64 a.silent) (.int .i64 a.silent)) && true))))) = true) (
.ob (dLow [.int .i64 (wrapK .i64 (Nat.land (bitsK .i64 a.silent) (bitsK .i64 b.silent)))]) (
.ob (((V.beq (.int .i64 b.wait) (.int .i64 b.wait)) && ((V.beq (.int .i64 b.win) (.int .i64 b.win)) && ((V.beq (.int .i64 b.size) (.int .i64 b.size)) && true))) = true) (
.ob (dSil [.int .i64 (loL (wrapK .i64 (Nat.land (bitsK .i64 a.silent) (bitsK .i64 b.silent))))]) (
.ob (pSil [.int .i64 (loL (wrapK .i64 (Nat.land (bitsK .i64 a.silent) (bitsK .i64 b.silent))))] = (.int .i64 200)) (
.ob (((V.beq (.int .i64 b.wait) (.int .i64 b.wait)) && ((V.beq (.int .i64 b.win) (.int .i64 b.win)) && ((V.beq (.int .i64 b.size) (.int .i64 b.size)) && true))) = true) (
.ob (dHigh [.int .i64 b.size]) (
.ob (((V.beq (.int .i64 b.wait) (.int .i64 b.wait)) && ((V.beq (.int .i64 b.win) (.int .i64 b.win)) && true)) = true) (
.ob (dBaud [.int .i64 (hiL b.size)]) (
.ob (((V.beq (.int .i64 b.wait) (.int .i64 b.wait)) && ((V.beq (.int .i64 b.win) (.int .i64 b.win)) && true)) = true) (
.ob (dHigh [.int .i64 b.win]) (
.ob (((V.beq (.int .i64 b.wait) (.int .i64 b.wait)) && true) = true) (
.ob (binV .add (.int .i64 (hiL b.win)) (.int .i64 1) = some (.int .i64 7)) (
.ob (dLow [.int .i64 b.wait]) (
.ob (dFrame [.int .i64 (sizeL (hiL b.size)), .int .i64 (baudL (hiL 1))]) (
.ob (((V.beq (.int .i64 7) (.int .i64 7)) && true) = true) (
.ob (binV .mul (.int .i64 7) (.int .i64 (frameL (sizeL (hiL b.size)) (baudL (hiL 1)))) = some (.int .i64 35)) (
.ob (dFrame [.int .i64 (sizeL (hiL b.size)), .int .i64 (baudL (hiL 1))]) (
.ob (((V.beq (.int .i64 6) (.int .i64 6)) && true) = true) (
.ob (binV .mul (.int .i64 6) (.int .i64 (frameL (sizeL (hiL b.size)) (baudL (hiL 1)))) = some (.int .i64 30)) (
.leaf (.tup [.agg [.int .i64 (baudL (hiL 1)), .int .i64 200, .int .i64 6, .int .i64 (sizeL (hiL b.size)), .int .i64 (loL b.wait)], .bool true])))))))))))))))))))))))))))))
set_option maxRecDepth 1000000 in
theorem treeDeal7_eq (a : Gw.Offer) (b : Gw.Offer) : funT (mkXT (noPX) ((consT 86 (gD dFrame pFrame noV) (consT 85 (gD dBaud pSize noV) (consT 83 (gD dSil pSil (fun n => match n with | 35 => some (.int .i64 200) | _ => none)) (consT 81 (gD dBaud pBaud noV) (consT 84 (gDT kT0 kT1 kT2 dLow pLow noV) (consT 82 (gD dHigh pHigh noV) (consT 43 (gD dOff pMayQ (fun n => match n with | 7 => some (.bool true) | _ => none)) noOX))))))))) (mkXP (noPX)) (mkX (noPX) ((consT 86 (gD dFrame pFrame noV) (consT 85 (gD dBaud pSize noV) (consT 83 (gD dSil pSil (fun n => match n with | 35 => some (.int .i64 200) | _ => none)) (consT 81 (gD dBaud pBaud noV) (consT 84 (gDT kT0 kT1 kT2 dLow pLow noV) (consT 82 (gD dHigh pHigh noV) (consT 43 (gD dOff pMayQ (fun n => match n with | 7 => some (.bool true) | _ => none)) noOX))))))))) D (fun _ => noOrc) (fun k => match k with | 47 => [8, 12, 44, 54] | _ => []) 12 (fun k => match k with | 20 => some fun t h => (.int .i64 1, h) | 37 => some fun t h => (.int .i64 7, h) | 53 => some fun t h => (match nth t 43 with | .int .i64 7 => (.int .i64 35 : V) | _ => .int .i64 30, h) | _ => none) [8, 12, 44, 54] (noLt) (dOf 47) [.agg a.vs, .agg b.vs] (tabH kT0 kT1 kT2 3) (fun v _ => v) = treeDeal7 a b := by kernel_rfl
theorem satDeal7 (a b : Gw.Offer) (ha : MayO a) (hb : MayO b) (hw : hiL b.win = 6) (hc : cbaud a b = 1) (hs : hiL b.size = 3) : (treeDeal7 a b).sat fun v => v = .tup [.agg (dealL a b).vs, .bool true] :=
 sat_ob trivial (
sat_ob (may_of ha) (
sat_ob trivial (
sat_ob (may_of hb) (
sat_ob (by show some (V.int .i64 (wrapK .i64 (Nat.land (bitsK .i64 a.baud) (bitsK .i64 b.baud)))) = _; rw [cbW hb, hc]) (
sat_ob (show 0 ≤ _ ∧ _ < 128 by decide) (
sat_ob (by simp [V.beq, V.beqs]) (
sat_ob (show 0 ≤ _ ∧ _ < 4 by decide) (
sat_ob (by simp [V.beq, V.beqs]) (
sat_ob (show 0 ≤ _ ∧ _ < 8 by obtain ⟨n, e1, e2, e3⟩ := slW ha hb; rw [e1]; exact e2) (
sat_ob (by simp [V.beq, V.beqs]) (
sat_ob (show 0 ≤ _ ∧ _ < 3 by obtain ⟨n, e1, e2, e3⟩ := slW ha hb; rw [e1, e3]; decide) (
sat_ob (show V.int .i64 (silL _) = _ by obtain ⟨n, e1, e2, e3⟩ := slW ha hb; rw [e1, e3]; rfl) (
sat_ob (by simp [V.beq, V.beqs]) (
sat_ob (show 0 ≤ _ ∧ _ < 128 by have := hb.z; omega) (
sat_ob (by simp [V.beq, V.beqs]) (
sat_ob (show 0 ≤ _ ∧ _ < 4 by have := hb.z; exact hiL4 (by omega)) (
sat_ob (by simp [V.beq, V.beqs]) (
sat_ob (show 0 ≤ _ ∧ _ < 128 by have := hb.w; omega) (
sat_ob (by simp [V.beq, V.beqs]) (
sat_ob (by rw [hw]; rfl) (
sat_ob (show 0 ≤ _ ∧ _ < 8 by have := hb.t; omega) (
sat_ob (fr_dom (by have := hb.z; exact hiL4 (by omega)) (by decide)) (
sat_ob (by simp [V.beq, V.beqs]) (
sat_ob (by rw [hs]; rfl) (
sat_ob (fr_dom (by have := hb.z; exact hiL4 (by omega)) (by decide)) (
sat_ob (by simp [V.beq, V.beqs]) (
sat_ob (by rw [hs]; rfl) (
sat_leaf (by simp only [dealL, Gw.Deal.vs, cbW hb, hw, vi]; rw [hs, hc]; rfl)))))))))))))))))))))))))))))
theorem tabDeal7 : TabX Tryz.prog noPX ((consT 86 (gD dFrame pFrame noV) (consT 85 (gD dBaud pSize noV) (consT 83 (gD dSil pSil (fun n => match n with | 35 => some (.int .i64 200) | _ => none)) (consT 81 (gD dBaud pBaud noV) (consT 84 (gDT kT0 kT1 kT2 dLow pLow noV) (consT 82 (gD dHigh pHigh noV) (consT 43 (gD dOff pMayQ (fun n => match n with | 7 => some (.bool true) | _ => none)) noOX)))))))) := (((((((TabX.nil.addT (ans_may (fun n => match n with | 7 => some (.bool true) | _ => none))).addT (ans_high noV)).addT (ans_low noV)).addT (ans_baud noV)).addT (ans_silent (fun n => match n with | 35 => some (.int .i64 200) | _ => none))).addT (ans_size noV)).addT (ans_frame noV))
theorem run_deal (a b : Gw.Offer) (ha : MayO a) (hb : MayO b) : Run Tryz.prog 47 [.agg a.vs, .agg b.vs] (tabH kT0 kT1 kT2 3) fun v _ => v = .tup [.agg (dealL a b).vs, .bool true] := by
  have h7 := hiL7 (n := b.win) (by have := hb.w; omega)
  obtain h | h | h | h | h | h | h : hiL b.win = 0 ∨ hiL b.win = 1 ∨ hiL b.win = 2 ∨ hiL b.win = 3 ∨ hiL b.win = 4 ∨ hiL b.win = 5 ∨ hiL b.win = 6 := by omega
  · exact run_plainU mixed tabDeal0 tabD (dIs (by kernel_rfl)) (treeDeal0_eq a b) (satDeal0 a b ha hb h)
  · exact run_plainU mixed tabDeal1 tabD (dIs (by kernel_rfl)) (treeDeal1_eq a b) (satDeal1 a b ha hb h)
  · exact run_plainU mixed tabDeal2 tabD (dIs (by kernel_rfl)) (treeDeal2_eq a b) (satDeal2 a b ha hb h)
  · exact run_plainU mixed tabDeal3 tabD (dIs (by kernel_rfl)) (treeDeal3_eq a b) (satDeal3 a b ha hb h)
  · exact run_plainU mixed tabDeal4 tabD (dIs (by kernel_rfl)) (treeDeal4_eq a b) (satDeal4 a b ha hb h)
  · exact run_plainU mixed tabDeal5 tabD (dIs (by kernel_rfl)) (treeDeal5_eq a b) (satDeal5 a b ha hb h)
  · by_cases hf : frameL (sizeL (hiL b.size)) (baudL (hiL (cbaud a b))) ≤ 4
    · exact run_plainU mixed tabDeal6 tabD (dIs (by kernel_rfl)) (treeDeal6_eq a b) (satDeal6 a b ha hb h hf)
    · obtain ⟨f1, f2, f3⟩ := HF ha hb
      obtain ⟨e1, e2⟩ := f3 (by omega)
      have hc : cbaud a b = 1 := by
        have := cbB ha hb
        unfold hiL at e2
        repeat' split at e2
        all_goals omega
      exact run_plainU mixed tabDeal7 tabD (dIs (by kernel_rfl)) (treeDeal7_eq a b) (satDeal7 a b ha hb h hc e1)
theorem ans_deal (orc : Nat → Option V) : AnsO Tryz.prog 47 (fun args h => (gDT kT0 kT1 kT2 dDeal pDeal orc args h).run) := ansDT orc fun args hd => by
  unfold dDeal at hd
  split at hd
  · rename_i a1 a2 a3 a4 a5 b1 b2 b3 b4 b5
    exact ⟨rfl, rfl, run_deal ⟨a1, a2, a3, a4, a5⟩ ⟨b1, b2, b3, b4, b5⟩ hd.1 hd.2⟩
  · exact hd.elim
theorem pMay_fine (a : Gw.Offer) : pMayQ [.agg [.int .i64 (fineO a).baud, .int .i64 (fineO a).silent, .int .i64 (fineO a).win, .int .i64 (fineO a).size, .int .i64 (fineO a).wait]] = .bool true := may_of (mayO_fine a)
end Go.Proofs.YtjcninlcdnkofaaGreatDoor

/- Beginnings are written. -/
noncomputable section
namespace Go.Proofs.YtjcninlcdnkofaaGreatDoor
open Go Gw Go.RowKit
set_option linter.unusedSimpArgs false
set_option linter.unusedVariables false
def dPut : List V → Prop
  | [.agg [.int .u32 f, .int .u32 t, .int .i64 s, .int .i64 c, .int .i64 b1, .int .i64 b2, .int .i64 b3, .int .i64 b4, .int .i64 b5]] => OkSetup ⟨f, t, s, c, ⟨b1, b2, b3, b4, b5⟩⟩
  | _ => False
def pPut : List V → V
  | [.agg [.int .u32 f, .int .u32 t, .int .i64 s, .int .i64 c, .int .i64 b1, .int .i64 b2, .int .i64 b3, .int .i64 b4, .int .i64 b5]] => .tup [.str (setupStr ⟨f, t, s, c, ⟨b1, b2, b3, b4, b5⟩⟩), .bool true]
  | _ => .nilp
def treePut (x : SetupL) : DT V :=
  .ob (dOff [.agg [.int .i64 x.o.baud, .int .i64 x.o.silent, .int .i64 x.o.win, .int .i64 x.o.size, .int .i64 x.o.wait]]) (
.ob (pMayQ [.agg [.int .i64 x.o.baud, .int .i64 x.o.silent, .int .i64 x.o.win, .int .i64 x.o.size, .int .i64 x.o.wait]] = (.bool true)) (
.ob (1 = 1 ∧ 0 ≤ (0 : Int) ∧ (0 : Int) < ((5 : Nat) : Int)) (
.ob ((2 = 2 ∧ ([.int .i64 1, .str [(UInt8.ofNat ((wrapK .u8 x.o.baud) : Int).toNat)]] : List V).length = 1 * 2) ∧ allOne [.int .i64 1, .str [(UInt8.ofNat ((wrapK .u8 x.o.baud) : Int).toNat)]] = true ∧ 1 * 24 ≤ 70368744177664) (
.ob (1 = 1 ∧ 0 ≤ (1 : Int) ∧ (1 : Int) < ((5 : Nat) : Int)) (
.ob ((2 = 2 ∧ ([.int .i64 2, .str [(UInt8.ofNat ((wrapK .u8 x.o.silent) : Int).toNat)]] : List V).length = 1 * 2) ∧ allOne [.int .i64 2, .str [(UInt8.ofNat ((wrapK .u8 x.o.silent) : Int).toNat)]] = true ∧ 2 = 2 ∧ 2 * 24 ≤ 70368744177664 ∧ ([.int .i64 1, .str [(UInt8.ofNat ((wrapK .u8 x.o.baud) : Int).toNat)]] : List V).length = 1 * 2) (
.ob (1 = 1 ∧ 0 ≤ (2 : Int) ∧ (2 : Int) < ((5 : Nat) : Int)) (
.ob ((2 = 2 ∧ ([.int .i64 3, .str [(UInt8.ofNat ((wrapK .u8 x.o.win) : Int).toNat)]] : List V).length = 1 * 2) ∧ allOne [.int .i64 3, .str [(UInt8.ofNat ((wrapK .u8 x.o.win) : Int).toNat)]] = true ∧ 2 = 2 ∧ 3 * 24 ≤ 70368744177664 ∧ ([.int .i64 1, .str [(UInt8.ofNat ((wrapK .u8 x.o.baud) : Int).toNat)], .int .i64 2, .str [(UInt8.ofNat ((wrapK .u8 x.o.silent) : Int).toNat)]] : List V).length = 2 * 2) (
.ob (1 = 1 ∧ 0 ≤ (3 : Int) ∧ (3 : Int) < ((5 : Nat) : Int)) (
.ob ((2 = 2 ∧ ([.int .i64 4, .str [(UInt8.ofNat ((wrapK .u8 x.o.size) : Int).toNat)]] : List V).length = 1 * 2) ∧ allOne [.int .i64 4, .str [(UInt8.ofNat ((wrapK .u8 x.o.size) : Int).toNat)]] = true ∧ 2 = 2 ∧ 4 * 24 ≤ 70368744177664 ∧ ([.int .i64 1, .str [(UInt8.ofNat ((wrapK .u8 x.o.baud) : Int).toNat)], .int .i64 2, .str [(UInt8.ofNat ((wrapK .u8 x.o.silent) : Int).toNat)], .int .i64 3, .str [(UInt8.ofNat ((wrapK .u8 x.o.win) : Int).toNat)]] : List V).length = 3 * 2) (
.ob (1 = 1 ∧ 0 ≤ (4 : Int) ∧ (4 : Int) < ((5 : Nat) : Int)) (
.ob ((2 = 2 ∧ ([.int .i64 5, .str [(UInt8.ofNat ((wrapK .u8 x.o.wait) : Int).toNat)]] : List V).length = 1 * 2) ∧ allOne [.int .i64 5, .str [(UInt8.ofNat ((wrapK .u8 x.o.wait) : Int).toNat)]] = true ∧ 2 = 2 ∧ 5 * 24 ≤ 70368744177664 ∧ ([.int .i64 1, .str [(UInt8.ofNat ((wrapK .u8 x.o.baud) : Int).toNat)], .int .i64 2, .str [(UInt8.ofNat ((wrapK .u8 x.o.silent) : Int).toNat)], .int .i64 3, .str [(UInt8.ofNat ((wrapK .u8 x.o.win) : Int).toNat)], .int .i64 4, .str [(UInt8.ofNat ((wrapK .u8 x.o.size) : Int).toNat)]] : List V).length = 4 * 2) (
.ob (2 = 2 ∧ 0 ≤ (0 : Int) ∧ (0 : Int) < ((5 : Nat) : Int)) (
.ob (((1 = 1 ∧ ([.int .u8 1, .int .u8 1] : List V).length = 2 * 1) ∧ allOne [.int .u8 1, .int .u8 1] = true ∧ 2 * 1 ≤ 70368744177664) ∧ ((V.beq (.str [(UInt8.ofNat ((wrapK .u8 x.o.baud) : Int).toNat)]) (.str [(UInt8.ofNat ((wrapK .u8 x.o.baud) : Int).toNat)])) && true) = true) (
.ob (True ∧ allOne (byteVs [(UInt8.ofNat ((wrapK .u8 x.o.baud) : Int).toNat)]) = true ∧ 1 = 1 ∧ (2 + 1) * 1 ≤ 70368744177664 ∧ ([.int .u8 1, .int .u8 1] : List V).length = 2 * 1) (
.ob (2 = 2 ∧ 0 ≤ (1 : Int) ∧ (1 : Int) < ((5 : Nat) : Int)) (
.ob (((1 = 1 ∧ ([.int .u8 2, .int .u8 1] : List V).length = 2 * 1) ∧ allOne [.int .u8 2, .int .u8 1] = true ∧ 1 = 1 ∧ 5 * 1 ≤ 70368744177664 ∧ ([.int .u8 1, .int .u8 1, .int .u8 ((((UInt8.ofNat ((wrapK .u8 x.o.baud) : Int).toNat) : UInt8).toNat : Nat) : Int)] : List V).length = 3 * 1) ∧ ((V.beq (.str [(UInt8.ofNat ((wrapK .u8 x.o.silent) : Int).toNat)]) (.str [(UInt8.ofNat ((wrapK .u8 x.o.silent) : Int).toNat)])) && true) = true) (
.ob (True ∧ allOne (byteVs [(UInt8.ofNat ((wrapK .u8 x.o.silent) : Int).toNat)]) = true ∧ 1 = 1 ∧ (5 + 1) * 1 ≤ 70368744177664 ∧ ([.int .u8 1, .int .u8 1, .int .u8 ((((UInt8.ofNat ((wrapK .u8 x.o.baud) : Int).toNat) : UInt8).toNat : Nat) : Int), .int .u8 2, .int .u8 1] : List V).length = 5 * 1) (
.ob (2 = 2 ∧ 0 ≤ (2 : Int) ∧ (2 : Int) < ((5 : Nat) : Int)) (
.ob (((1 = 1 ∧ ([.int .u8 3, .int .u8 1] : List V).length = 2 * 1) ∧ allOne [.int .u8 3, .int .u8 1] = true ∧ 1 = 1 ∧ 8 * 1 ≤ 70368744177664 ∧ ([.int .u8 1, .int .u8 1, .int .u8 ((((UInt8.ofNat ((wrapK .u8 x.o.baud) : Int).toNat) : UInt8).toNat : Nat) : Int), .int .u8 2, .int .u8 1, .int .u8 ((((UInt8.ofNat ((wrapK .u8 x.o.silent) : Int).toNat) : UInt8).toNat : Nat) : Int)] : List V).length = 6 * 1) ∧ ((V.beq (.str [(UInt8.ofNat ((wrapK .u8 x.o.win) : Int).toNat)]) (.str [(UInt8.ofNat ((wrapK .u8 x.o.win) : Int).toNat)])) && true) = true) (
.ob (True ∧ allOne (byteVs [(UInt8.ofNat ((wrapK .u8 x.o.win) : Int).toNat)]) = true ∧ 1 = 1 ∧ (8 + 1) * 1 ≤ 70368744177664 ∧ ([.int .u8 1, .int .u8 1, .int .u8 ((((UInt8.ofNat ((wrapK .u8 x.o.baud) : Int).toNat) : UInt8).toNat : Nat) : Int), .int .u8 2, .int .u8 1, .int .u8 ((((UInt8.ofNat ((wrapK .u8 x.o.silent) : Int).toNat) : UInt8).toNat : Nat) : Int), .int .u8 3, .int .u8 1] : List V).length = 8 * 1) (
.ob (2 = 2 ∧ 0 ≤ (3 : Int) ∧ (3 : Int) < ((5 : Nat) : Int)) (
.ob (((1 = 1 ∧ ([.int .u8 4, .int .u8 1] : List V).length = 2 * 1) ∧ allOne [.int .u8 4, .int .u8 1] = true ∧ 1 = 1 ∧ 11 * 1 ≤ 70368744177664 ∧ ([.int .u8 1, .int .u8 1, .int .u8 ((((UInt8.ofNat ((wrapK .u8 x.o.baud) : Int).toNat) : UInt8).toNat : Nat) : Int), .int .u8 2, .int .u8 1, .int .u8 ((((UInt8.ofNat ((wrapK .u8 x.o.silent) : Int).toNat) : UInt8).toNat : Nat) : Int), .int .u8 3, .int .u8 1, .int .u8 ((((UInt8.ofNat ((wrapK .u8 x.o.win) : Int).toNat) : UInt8).toNat : Nat) : Int)] : List V).length = 9 * 1) ∧ ((V.beq (.str [(UInt8.ofNat ((wrapK .u8 x.o.size) : Int).toNat)]) (.str [(UInt8.ofNat ((wrapK .u8 x.o.size) : Int).toNat)])) && true) = true) (
.ob (True ∧ allOne (byteVs [(UInt8.ofNat ((wrapK .u8 x.o.size) : Int).toNat)]) = true ∧ 1 = 1 ∧ (11 + 1) * 1 ≤ 70368744177664 ∧ ([.int .u8 1, .int .u8 1, .int .u8 ((((UInt8.ofNat ((wrapK .u8 x.o.baud) : Int).toNat) : UInt8).toNat : Nat) : Int), .int .u8 2, .int .u8 1, .int .u8 ((((UInt8.ofNat ((wrapK .u8 x.o.silent) : Int).toNat) : UInt8).toNat : Nat) : Int), .int .u8 3, .int .u8 1, .int .u8 ((((UInt8.ofNat ((wrapK .u8 x.o.win) : Int).toNat) : UInt8).toNat : Nat) : Int), .int .u8 4, .int .u8 1] : List V).length = 11 * 1) (
.ob (2 = 2 ∧ 0 ≤ (4 : Int) ∧ (4 : Int) < ((5 : Nat) : Int)) (
.ob (((1 = 1 ∧ ([.int .u8 5, .int .u8 1] : List V).length = 2 * 1) ∧ allOne [.int .u8 5, .int .u8 1] = true ∧ 1 = 1 ∧ 14 * 1 ≤ 70368744177664 ∧ ([.int .u8 1, .int .u8 1, .int .u8 ((((UInt8.ofNat ((wrapK .u8 x.o.baud) : Int).toNat) : UInt8).toNat : Nat) : Int), .int .u8 2, .int .u8 1, .int .u8 ((((UInt8.ofNat ((wrapK .u8 x.o.silent) : Int).toNat) : UInt8).toNat : Nat) : Int), .int .u8 3, .int .u8 1, .int .u8 ((((UInt8.ofNat ((wrapK .u8 x.o.win) : Int).toNat) : UInt8).toNat : Nat) : Int), .int .u8 4, .int .u8 1, .int .u8 ((((UInt8.ofNat ((wrapK .u8 x.o.size) : Int).toNat) : UInt8).toNat : Nat) : Int)] : List V).length = 12 * 1) ∧ ((V.beq (.str [(UInt8.ofNat ((wrapK .u8 x.o.wait) : Int).toNat)]) (.str [(UInt8.ofNat ((wrapK .u8 x.o.wait) : Int).toNat)])) && true) = true) (
.ob (True ∧ allOne (byteVs [(UInt8.ofNat ((wrapK .u8 x.o.wait) : Int).toNat)]) = true ∧ 1 = 1 ∧ (14 + 1) * 1 ≤ 70368744177664 ∧ ([.int .u8 1, .int .u8 1, .int .u8 ((((UInt8.ofNat ((wrapK .u8 x.o.baud) : Int).toNat) : UInt8).toNat : Nat) : Int), .int .u8 2, .int .u8 1, .int .u8 ((((UInt8.ofNat ((wrapK .u8 x.o.silent) : Int).toNat) : UInt8).toNat : Nat) : Int), .int .u8 3, .int .u8 1, .int .u8 ((((UInt8.ofNat ((wrapK .u8 x.o.win) : Int).toNat) : UInt8).toNat : Nat) : Int), .int .u8 4, .int .u8 1, .int .u8 ((((UInt8.ofNat ((wrapK .u8 x.o.size) : Int).toNat) : UInt8).toNat : Nat) : Int), .int .u8 5, .int .u8 1] : List V).length = 14 * 1) (
.ob (binV .neq (.int .u32 x.src) (.int .u32 0) = some (.bool true)) (
.ob (binV .neq (.int .u32 x.src) (.int .u32 4294967295) = some (.bool true)) (
.ob (binV .neq (.int .u32 x.dst) (.int .u32 0) = some (.bool true)) (
.ob (binV .neq (.int .u32 x.dst) (.int .u32 4294967295) = some (.bool true)) (
.ob (binV .geq (.int .i64 x.seat) (.int .i64 0) = some (.bool true)) (
.ob (binV .lss (.int .i64 x.seat) (.int .i64 8) = some (.bool true)) (
.ob (binV .geq (.int .i64 x.count) (.int .i64 0) = some (.bool true)) (
.ob (binV .lss (.int .i64 x.count) (.int .i64 250) = some (.bool true)) (
.ob (¬ (8 : Int) < 0) (
.ob (¬ (16 : Int) < 0) (
.ob (¬ (24 : Int) < 0) (
.ob ((1 = 1 ∧ ([.int .u8 (wrapK .u8 x.src), .int .u8 (wrapK .u8 ((x.src : Int).fdiv ((2 ^ (min (8 : Int).toNat (bitsOf .u32)) : Nat) : Int))), .int .u8 (wrapK .u8 ((x.src : Int).fdiv ((2 ^ (min (16 : Int).toNat (bitsOf .u32)) : Nat) : Int))), .int .u8 (wrapK .u8 ((x.src : Int).fdiv ((2 ^ (min (24 : Int).toNat (bitsOf .u32)) : Nat) : Int)))] : List V).length = 4 * 1) ∧ allOne [.int .u8 (wrapK .u8 x.src), .int .u8 (wrapK .u8 ((x.src : Int).fdiv ((2 ^ (min (8 : Int).toNat (bitsOf .u32)) : Nat) : Int))), .int .u8 (wrapK .u8 ((x.src : Int).fdiv ((2 ^ (min (16 : Int).toNat (bitsOf .u32)) : Nat) : Int))), .int .u8 (wrapK .u8 ((x.src : Int).fdiv ((2 ^ (min (24 : Int).toNat (bitsOf .u32)) : Nat) : Int)))] = true ∧ 4 * 1 ≤ 70368744177664) (
.ob (((V.beq (.int .u32 x.dst) (.int .u32 x.dst)) && true) = true) (
.ob (¬ (8 : Int) < 0) (
.ob (¬ (16 : Int) < 0) (
.ob (¬ (24 : Int) < 0) (
.ob ((1 = 1 ∧ ([.int .u8 (wrapK .u8 x.dst), .int .u8 (wrapK .u8 ((x.dst : Int).fdiv ((2 ^ (min (8 : Int).toNat (bitsOf .u32)) : Nat) : Int))), .int .u8 (wrapK .u8 ((x.dst : Int).fdiv ((2 ^ (min (16 : Int).toNat (bitsOf .u32)) : Nat) : Int))), .int .u8 (wrapK .u8 ((x.dst : Int).fdiv ((2 ^ (min (24 : Int).toNat (bitsOf .u32)) : Nat) : Int)))] : List V).length = 4 * 1) ∧ allOne [.int .u8 (wrapK .u8 x.dst), .int .u8 (wrapK .u8 ((x.dst : Int).fdiv ((2 ^ (min (8 : Int).toNat (bitsOf .u32)) : Nat) : Int))), .int .u8 (wrapK .u8 ((x.dst : Int).fdiv ((2 ^ (min (16 : Int).toNat (bitsOf .u32)) : Nat) : Int))), .int .u8 (wrapK .u8 ((x.dst : Int).fdiv ((2 ^ (min (24 : Int).toNat (bitsOf .u32)) : Nat) : Int)))] = true ∧ 1 = 1 ∧ 8 * 1 ≤ 70368744177664 ∧ ([.int .u8 (wrapK .u8 x.src), .int .u8 (wrapK .u8 ((x.src : Int).fdiv ((2 ^ (min (8 : Int).toNat (bitsOf .u32)) : Nat) : Int))), .int .u8 (wrapK .u8 ((x.src : Int).fdiv ((2 ^ (min (16 : Int).toNat (bitsOf .u32)) : Nat) : Int))), .int .u8 (wrapK .u8 ((x.src : Int).fdiv ((2 ^ (min (24 : Int).toNat (bitsOf .u32)) : Nat) : Int)))] : List V).length = 4 * 1) (
.ob ((1 = 1 ∧ ([.int .u8 (wrapK .u8 x.seat), .int .u8 (wrapK .u8 x.count)] : List V).length = 2 * 1) ∧ allOne [.int .u8 (wrapK .u8 x.seat), .int .u8 (wrapK .u8 x.count)] = true ∧ 1 = 1 ∧ 10 * 1 ≤ 70368744177664 ∧ ([.int .u8 (wrapK .u8 x.src), .int .u8 (wrapK .u8 ((x.src : Int).fdiv ((2 ^ (min (8 : Int).toNat (bitsOf .u32)) : Nat) : Int))), .int .u8 (wrapK .u8 ((x.src : Int).fdiv ((2 ^ (min (16 : Int).toNat (bitsOf .u32)) : Nat) : Int))), .int .u8 (wrapK .u8 ((x.src : Int).fdiv ((2 ^ (min (24 : Int).toNat (bitsOf .u32)) : Nat) : Int))), .int .u8 (wrapK .u8 x.dst), .int .u8 (wrapK .u8 ((x.dst : Int).fdiv ((2 ^ (min (8 : Int).toNat (bitsOf .u32)) : Nat) : Int))), .int .u8 (wrapK .u8 ((x.dst : Int).fdiv ((2 ^ (min (16 : Int).toNat (bitsOf .u32)) : Nat) : Int))), .int .u8 (wrapK .u8 ((x.dst : Int).fdiv ((2 ^ (min (24 : Int).toNat (bitsOf .u32)) : Nat) : Int)))] : List V).length = 8 * 1) (
.ob (10 + 15 ≤ bound) (
.leaf (.tup [.str [(UInt8.ofNat ((wrapK .u8 x.src) : Int).toNat), (UInt8.ofNat ((wrapK .u8 ((x.src : Int).fdiv ((2 ^ (min (8 : Int).toNat (bitsOf .u32)) : Nat) : Int))) : Int).toNat), (UInt8.ofNat ((wrapK .u8 ((x.src : Int).fdiv ((2 ^ (min (16 : Int).toNat (bitsOf .u32)) : Nat) : Int))) : Int).toNat), (UInt8.ofNat ((wrapK .u8 ((x.src : Int).fdiv ((2 ^ (min (24 : Int).toNat (bitsOf .u32)) : Nat) : Int))) : Int).toNat), (UInt8.ofNat ((wrapK .u8 x.dst) : Int).toNat), (UInt8.ofNat ((wrapK .u8 ((x.dst : Int).fdiv ((2 ^ (min (8 : Int).toNat (bitsOf .u32)) : Nat) : Int))) : Int).toNat), (UInt8.ofNat ((wrapK .u8 ((x.dst : Int).fdiv ((2 ^ (min (16 : Int).toNat (bitsOf .u32)) : Nat) : Int))) : Int).toNat), (UInt8.ofNat ((wrapK .u8 ((x.dst : Int).fdiv ((2 ^ (min (24 : Int).toNat (bitsOf .u32)) : Nat) : Int))) : Int).toNat), (UInt8.ofNat ((wrapK .u8 x.seat) : Int).toNat), (UInt8.ofNat ((wrapK .u8 x.count) : Int).toNat), 1, 1, (UInt8.ofNat (((((UInt8.ofNat ((wrapK .u8 x.o.baud) : Int).toNat) : UInt8).toNat : Nat) : Int) : Int).toNat), 2, 1, (UInt8.ofNat (((((UInt8.ofNat ((wrapK .u8 x.o.silent) : Int).toNat) : UInt8).toNat : Nat) : Int) : Int).toNat), 3, 1, (UInt8.ofNat (((((UInt8.ofNat ((wrapK .u8 x.o.win) : Int).toNat) : UInt8).toNat : Nat) : Int) : Int).toNat), 4, 1, (UInt8.ofNat (((((UInt8.ofNat ((wrapK .u8 x.o.size) : Int).toNat) : UInt8).toNat : Nat) : Int) : Int).toNat), 5, 1, (UInt8.ofNat (((((UInt8.ofNat ((wrapK .u8 x.o.wait) : Int).toNat) : UInt8).toNat : Nat) : Int) : Int).toNat)], .bool true])))))))))))))))))))))))))))))))))))))))))))))))
set_option maxRecDepth 1000000 in
theorem treePut_eq (x : SetupL) : funT (mkXT (noPX) ((consT 43 (gD dOff pMayQ (fun n => match n with | 9 => some (.bool true) | _ => none)) noOX))) (mkXP (noPX)) (mkX (noPX) ((consT 43 (gD dOff pMayQ (fun n => match n with | 9 => some (.bool true) | _ => none)) noOX))) D (fun g => match g with | 133 => (fun k => match k with | 4 => some fun t h => (.bool true, h) | 7 => some fun t h => (.bool true, h) | _ => none) | 80 => (fun k => match k with | 17 => some fun t h => (.bool true, h) | 22 => some fun t h => (.bool true, h) | 27 => some fun t h => (.bool true, h) | 32 => some fun t h => (.bool true, h) | _ => none) | _ => noOrc) (fun k => match k with | 70 => [12, 17] | 80 => [8, 12, 17, 22, 27, 32] | 127 => [8, 23, 41] | 133 => [4, 7] | 153 => [10, 15, 19, 25, 43] | _ => []) 12 noOrc [12, 17] (noLt) (dOf 70) [.agg x.vs] (smallH []) (fun v _ => v) = treePut x := by kernel_rfl
theorem tabPut : TabX Tryz.prog noPX ((consT 43 (gD dOff pMayQ (fun n => match n with | 9 => some (.bool true) | _ => none)) noOX)) := (TabX.nil.addT (ans_may (fun n => match n with | 9 => some (.bool true) | _ => none)))
theorem w8 {n : Int} (h : 0 ≤ n ∧ n < 256) : wrapK .u8 n = n := by
  unfold wrapK
  simp only
  omega
theorem fd8 (n : Int) : Int.fdiv n ((2 ^ (min (8 : Int).toNat (bitsOf .u32)) : Nat) : Int) = n / 256 := by
  rw [show ((2 ^ (min (8 : Int).toNat (bitsOf .u32)) : Nat) : Int) = 256 by decide]
  exact Int.fdiv_eq_ediv_of_nonneg _ (by decide)
theorem fd16 (n : Int) : Int.fdiv n ((2 ^ (min (16 : Int).toNat (bitsOf .u32)) : Nat) : Int) = n / 65536 := by
  rw [show ((2 ^ (min (16 : Int).toNat (bitsOf .u32)) : Nat) : Int) = 65536 by decide]
  exact Int.fdiv_eq_ediv_of_nonneg _ (by decide)
theorem fd24 (n : Int) : Int.fdiv n ((2 ^ (min (24 : Int).toNat (bitsOf .u32)) : Nat) : Int) = n / 16777216 := by
  rw [show ((2 ^ (min (24 : Int).toNat (bitsOf .u32)) : Nat) : Int) = 16777216 by decide]
  exact Int.fdiv_eq_ediv_of_nonneg _ (by decide)
theorem u8u (u : UInt8) : UInt8.ofNat (((u.toNat : Nat) : Int)).toNat = u := by simp
theorem wu8 (n : Int) : wrapK .u8 n = n % 256 := rfl
theorem satPut (x : SetupL) (h : OkSetup x) : (treePut x).sat fun v => v = .tup [.str (setupStr x), .bool true] :=
 sat_ob trivial (
sat_ob (may_of h.o) (
sat_ob (by decide) (
sat_ob (by simp [V.beq, V.beqs, allOne, V.one, byteVs]) (
sat_ob (by decide) (
sat_ob (by simp [V.beq, V.beqs, allOne, V.one, byteVs]) (
sat_ob (by decide) (
sat_ob (by simp [V.beq, V.beqs, allOne, V.one, byteVs]) (
sat_ob (by decide) (
sat_ob (by simp [V.beq, V.beqs, allOne, V.one, byteVs]) (
sat_ob (by decide) (
sat_ob (by simp [V.beq, V.beqs, allOne, V.one, byteVs]) (
sat_ob (by decide) (
sat_ob (by simp [V.beq, V.beqs, allOne, V.one, byteVs]) (
sat_ob (by simp [V.beq, V.beqs, allOne, V.one, byteVs]) (
sat_ob (by decide) (
sat_ob (by simp [V.beq, V.beqs, allOne, V.one, byteVs]) (
sat_ob (by simp [V.beq, V.beqs, allOne, V.one, byteVs]) (
sat_ob (by decide) (
sat_ob (by simp [V.beq, V.beqs, allOne, V.one, byteVs]) (
sat_ob (by simp [V.beq, V.beqs, allOne, V.one, byteVs]) (
sat_ob (by decide) (
sat_ob (by simp [V.beq, V.beqs, allOne, V.one, byteVs]) (
sat_ob (by simp [V.beq, V.beqs, allOne, V.one, byteVs]) (
sat_ob (by decide) (
sat_ob (by simp [V.beq, V.beqs, allOne, V.one, byteVs]) (
sat_ob (by simp [V.beq, V.beqs, allOne, V.one, byteVs]) (
sat_ob (by have := h.s; simp [binV, binI]; omega) (
sat_ob (by have := h.s; simp [binV, binI]; omega) (
sat_ob (by have := h.d; simp [binV, binI]; omega) (
sat_ob (by have := h.d; simp [binV, binI]; omega) (
sat_ob (by have := h.seat; simp [binV, binI]; omega) (
sat_ob (by have := h.seat; simp [binV, binI]; omega) (
sat_ob (by have := h.count; simp [binV, binI]; omega) (
sat_ob (by have := h.count; simp [binV, binI]; omega) (
sat_ob (by decide) (
sat_ob (by decide) (
sat_ob (by decide) (
sat_ob (by simp [V.beq, V.beqs, allOne, V.one, byteVs]) (
sat_ob (by simp [V.beq, V.beqs, allOne, V.one, byteVs]) (
sat_ob (by decide) (
sat_ob (by decide) (
sat_ob (by decide) (
sat_ob (by simp [V.beq, V.beqs, allOne, V.one, byteVs]) (
sat_ob (by simp [V.beq, V.beqs, allOne, V.one, byteVs]) (
sat_ob (by simp [bound]) (
sat_leaf (by simp only [setupStr, b8, u8u, fd8, fd16, fd24, w8 (n := x.seat) (by have := h.seat; omega), w8 (n := x.count) (by have := h.count; omega), w8 (n := x.o.baud) (by have := h.o.b; omega), w8 (n := x.o.silent) (by have := h.o.s; omega), w8 (n := x.o.win) (by have := h.o.w; omega), w8 (n := x.o.size) (by have := h.o.z; omega), w8 (n := x.o.wait) (by have := h.o.t; omega), wu8])))))))))))))))))))))))))))))))))))))))))))))))
theorem ans_put (orc : Nat → Option V) : AnsO Tryz.prog 70 (fun args h => (gD dPut pPut orc args h).run) := ansD orc fun args hd => by
  unfold dPut at hd
  split at hd
  · rename_i f t s c b1 b2 b3 b4 b5
    exact ⟨rfl, rfl, run_plainU mixed tabPut tabD (dIs (by kernel_rfl)) (treePut_eq ⟨f, t, s, c, ⟨b1, b2, b3, b4, b5⟩⟩) (satPut _ hd)⟩
  · exact hd.elim
end Go.Proofs.YtjcninlcdnkofaaGreatDoor

/- Beginnings are read. -/
noncomputable section
namespace Go.Proofs.YtjcninlcdnkofaaGreatDoor
open Go Gw Go.RowKit
set_option linter.unusedSimpArgs false
set_option linter.unusedVariables false
def bAt (s : Str) (i : Nat) : Int := (((s.getD i 0).toNat : Nat) : Int)
def get4L (s : Str) : Int := bAt s 0 + 256 * bAt s 1 + 65536 * bAt s 2 + 16777216 * bAt s 3
def dGet4 : List V → Prop
  | [.str s] => 4 ≤ s.length
  | _ => False
def pGet4 : List V → V
  | [.str s] => .int .u32 (get4L s)
  | _ => .nilp
def treeGet4 (s : Str) : DT V :=
  .ob (0 ≤ (0 : Int) ∧ (0 : Int) < (((s : Str).length : Nat) : Int)) (
.ob (0 ≤ (1 : Int) ∧ (1 : Int) < (((s : Str).length : Nat) : Int)) (
.ob (¬ (8 : Int) < 0) (
.ob (0 ≤ (2 : Int) ∧ (2 : Int) < (((s : Str).length : Nat) : Int)) (
.ob (¬ (16 : Int) < 0) (
.ob (0 ≤ (3 : Int) ∧ (3 : Int) < (((s : Str).length : Nat) : Int)) (
.ob (¬ (24 : Int) < 0) (
.leaf (.int .u32 (wrapK .u32 (Nat.lor (bitsK .u32 (wrapK .u32 (Nat.lor (bitsK .u32 (wrapK .u32 (Nat.lor (bitsK .u32 (wrapK .u32 ((((s : Str).getD (0 : Int).toNat 0).toNat : Nat) : Int))) (bitsK .u32 (wrapK .u32 ((wrapK .u32 ((((s : Str).getD (1 : Int).toNat 0).toNat : Nat) : Int)) * ((2 ^ (min (8 : Int).toNat (bitsOf .u32)) : Nat) : Int))))))) (bitsK .u32 (wrapK .u32 ((wrapK .u32 ((((s : Str).getD (2 : Int).toNat 0).toNat : Nat) : Int)) * ((2 ^ (min (16 : Int).toNat (bitsOf .u32)) : Nat) : Int))))))) (bitsK .u32 (wrapK .u32 ((wrapK .u32 ((((s : Str).getD (3 : Int).toNat 0).toNat : Nat) : Int)) * ((2 ^ (min (24 : Int).toNat (bitsOf .u32)) : Nat) : Int))))))))))))))
set_option maxRecDepth 1000000 in
theorem treeGet4_eq (s : Str) : funT (mkXT (noPX) (noOX)) (mkXP (noPX)) (mkX (noPX) (noOX)) D (fun _ => noOrc) (fun _ => []) 12 noOrc [] (noLt) (dOf 78) [.str s] (smallH []) (fun v _ => v) = treeGet4 s := by kernel_rfl
theorem or_step (a c k : Nat) (ha : a < 2 ^ k) (hc : a + c * 2 ^ k < 4294967296) : wrapK .u32 ((Nat.lor (bitsK .u32 (a : Int)) (bitsK .u32 (wrapK .u32 ((c : Int) * ((2 ^ k : Nat) : Int)))) : Nat) : Int) = ((a + c * 2 ^ k : Nat) : Int) := by
  have e1 : bitsK .u32 (a : Int) = a := by
    show ((a : Int) % 4294967296).toNat = a
    omega
  have e2 : (c : Int) * ((2 ^ k : Nat) : Int) = ((c * 2 ^ k : Nat) : Int) := by simp
  have e3 : bitsK .u32 (wrapK .u32 ((c : Int) * ((2 ^ k : Nat) : Int))) = c * 2 ^ k := by
    rw [e2]
    show ((((c * 2 ^ k : Nat) : Int) % 4294967296) % 4294967296).toNat = _
    omega
  rw [e1, e3]
  have e4 : Nat.lor a (c * 2 ^ k) = a + c * 2 ^ k := by
    have := Nat.shiftLeft_add_eq_or_of_lt ha c
    rw [Nat.shiftLeft_eq] at this
    show a ||| (c * 2 ^ k) = _
    rw [Nat.or_comm, ← this]
    omega
  rw [e4]
  show ((a + c * 2 ^ k : Nat) : Int) % 4294967296 = _
  omega
theorem wb (b : UInt8) : wrapK .u32 ((b.toNat : Nat) : Int) = ((b.toNat : Nat) : Int) := by
  have := b.toNat_lt
  show ((b.toNat : Nat) : Int) % 4294967296 = _
  omega
theorem satGet4 (s : Str) (h : 4 ≤ s.length) : (treeGet4 s).sat fun v => v = .int .u32 (get4L s) := by
  refine ⟨by omega, by omega, by decide, by omega, by decide, by omega, by decide, ?_⟩
  show V.int .u32 _ = V.int .u32 _
  congr 1
  have q : ∀ i : Nat, (s.getD i 0).toNat < 256 := fun i => UInt8.toNat_lt _
  have q0 := q 0
  have q1 := q 1
  have q2 := q 2
  have q3 := q 3
  simp only [wb, show (2 ^ (min (8 : Int).toNat (bitsOf .u32)) : Nat) = 2 ^ 8 by decide, show (2 ^ (min (16 : Int).toNat (bitsOf .u32)) : Nat) = 2 ^ 16 by decide, show (2 ^ (min (24 : Int).toNat (bitsOf .u32)) : Nat) = 2 ^ 24 by decide,
    show (0 : Int).toNat = 0 by decide, show (1 : Int).toNat = 1 by decide, show (2 : Int).toNat = 2 by decide, show (3 : Int).toNat = 3 by decide, get4L, bAt]
  generalize (s.getD 0 0).toNat = b0 at *
  generalize (s.getD 1 0).toNat = b1 at *
  generalize (s.getD 2 0).toNat = b2 at *
  generalize (s.getD 3 0).toNat = b3 at *
  rw [or_step b0 b1 8 (by omega) (by omega), or_step _ b2 16 (by omega) (by omega), or_step _ b3 24 (by omega) (by omega)]
  omega
theorem ans_get4 (orc : Nat → Option V) : AnsO Tryz.prog 78 (fun args h => (gD dGet4 pGet4 orc args h).run) := ansD orc fun args hd => by
  unfold dGet4 at hd
  split at hd
  · rename_i s
    exact ⟨rfl, rfl, run_plainU mixed TabX.nil tabD (dIs (by kernel_rfl)) (treeGet4_eq s) (satGet4 s hd)⟩
  · exact hd.elim
theorem g4 {n : Int} (h : 0 < n ∧ n < 4294967295) (l : Str) : get4L (b8 (n % 256) :: b8 (n / 256 % 256) :: b8 (n / 65536 % 256) :: b8 (n / 16777216 % 256) :: l) = n := by
  show (((b8 (n % 256)).toNat : Nat) : Int) + 256 * (((b8 (n / 256 % 256)).toNat : Nat) : Int) + 65536 * (((b8 (n / 65536 % 256)).toNat : Nat) : Int) + 16777216 * (((b8 (n / 16777216 % 256)).toNat : Nat) : Int) = n
  rw [b8_toNat (by omega), b8_toNat (by omega), b8_toNat (by omega), b8_toNat (by omega)]
  omega
def dGet : List V → Prop
  | [.str s] => ∃ x : SetupL, OkSetup x ∧ s = setupStr x
  | _ => False
def getS (s : Str) : SetupL := ⟨get4L s, get4L (s.drop 4), bAt s 8, bAt s 9, ⟨bAt s 12, bAt s 15, bAt s 18, bAt s 21, bAt s 24⟩⟩
def pGet : List V → V
  | [.str s] => .tup [.agg (getS s).vs, .bool true]
  | _ => .nilp
theorem getS_put (x : SetupL) (h : OkSetup x) : getS (setupStr x) = x := by
  have e1 : get4L (setupStr x) = x.src := g4 h.s _
  have e2 : get4L ((setupStr x).drop 4) = x.dst := g4 h.d _
  have e3 : bAt (setupStr x) 8 = x.seat := b8_toNat (by have := h.seat; omega)
  have e4 : bAt (setupStr x) 9 = x.count := b8_toNat (by have := h.count; omega)
  have e5 : bAt (setupStr x) 12 = x.o.baud := b8_toNat (by have := h.o.b; omega)
  have e6 : bAt (setupStr x) 15 = x.o.silent := b8_toNat (by have := h.o.s; omega)
  have e7 : bAt (setupStr x) 18 = x.o.win := b8_toNat (by have := h.o.w; omega)
  have e8 : bAt (setupStr x) 21 = x.o.size := b8_toNat (by have := h.o.z; omega)
  have e9 : bAt (setupStr x) 24 = x.o.wait := b8_toNat (by have := h.o.t; omega)
  unfold getS
  rw [e1, e2, e3, e4, e5, e6, e7, e8, e9]
theorem get_put (x : SetupL) (h : OkSetup x) : pGet [.str (setupStr x)] = .tup [.agg x.vs, .bool true] := by
  show V.tup [.agg (getS (setupStr x)).vs, .bool true] = _
  rw [getS_put x h]
def treeGet (x : SetupL) : DT V :=
  .ob (dGet4 [.str [(b8 (x.src % 256)), (b8 (x.src / 256 % 256)), (b8 (x.src / 65536 % 256)), (b8 (x.src / 16777216 % 256)), (b8 (x.dst % 256)), (b8 (x.dst / 256 % 256)), (b8 (x.dst / 65536 % 256)), (b8 (x.dst / 16777216 % 256)), (b8 x.seat), (b8 x.count), 1, 1, (b8 x.o.baud), 2, 1, (b8 x.o.silent), 3, 1, (b8 x.o.win), 4, 1, (b8 x.o.size), 5, 1, (b8 x.o.wait)]]) (
.ob ((True) ∧ (0 ≤ (4 : Int) ∧ (4 : Int) ≤ ((25 : Nat) : Int))) (
.ob (dGet4 [.str [(b8 (x.dst % 256)), (b8 (x.dst / 256 % 256)), (b8 (x.dst / 65536 % 256)), (b8 (x.dst / 16777216 % 256)), (b8 x.seat), (b8 x.count), 1, 1, (b8 x.o.baud), 2, 1, (b8 x.o.silent), 3, 1, (b8 x.o.win), 4, 1, (b8 x.o.size), 5, 1, (b8 x.o.wait)]]) (
.ob (Gw.idxStr (.str [(b8 (x.src % 256)), (b8 (x.src / 256 % 256)), (b8 (x.src / 65536 % 256)), (b8 (x.src / 16777216 % 256)), (b8 (x.dst % 256)), (b8 (x.dst / 256 % 256)), (b8 (x.dst / 65536 % 256)), (b8 (x.dst / 16777216 % 256)), (b8 x.seat), (b8 x.count), 1, 1, (b8 x.o.baud), 2, 1, (b8 x.o.silent), 3, 1, (b8 x.o.win), 4, 1, (b8 x.o.size), 5, 1, (b8 x.o.wait)]) (.int .i64 8) = some (.int .u8 x.seat)) (
.ob ((some (V.int .i64 (wrapK .i64 x.seat)) : Option V) = some (.int .i64 x.seat)) (
.ob (Gw.idxStr (.str [(b8 (x.src % 256)), (b8 (x.src / 256 % 256)), (b8 (x.src / 65536 % 256)), (b8 (x.src / 16777216 % 256)), (b8 (x.dst % 256)), (b8 (x.dst / 256 % 256)), (b8 (x.dst / 65536 % 256)), (b8 (x.dst / 16777216 % 256)), (b8 x.seat), (b8 x.count), 1, 1, (b8 x.o.baud), 2, 1, (b8 x.o.silent), 3, 1, (b8 x.o.win), 4, 1, (b8 x.o.size), 5, 1, (b8 x.o.wait)]) (.int .i64 9) = some (.int .u8 x.count)) (
.ob ((some (V.int .i64 (wrapK .i64 x.count)) : Option V) = some (.int .i64 x.count)) (
.ob ((True) ∧ (0 ≤ (10 : Int) ∧ (10 : Int) ≤ ((25 : Nat) : Int))) (
.ob (binV .neq (.str [1, 1, (b8 x.o.baud), 2, 1, (b8 x.o.silent), 3, 1, (b8 x.o.win), 4, 1, (b8 x.o.size), 5, 1, (b8 x.o.wait)]) (.str []) = some (.bool true)) (
.ob (0 ≤ (1 : Int) ∧ (1 : Int) < ((([1, 1, (b8 x.o.baud), 2, 1, (b8 x.o.silent), 3, 1, (b8 x.o.win), 4, 1, (b8 x.o.size), 5, 1, (b8 x.o.wait)] : Str).length : Nat) : Int)) (
.ob (0 ≤ (1 : Int) ∧ (1 : Int) < ((([1, 1, (b8 x.o.baud), 2, 1, (b8 x.o.silent), 3, 1, (b8 x.o.win), 4, 1, (b8 x.o.size), 5, 1, (b8 x.o.wait)] : Str).length : Nat) : Int)) (
.ob (0 ≤ (1 : Int) ∧ (1 : Int) < ((([1, 1, (b8 x.o.baud), 2, 1, (b8 x.o.silent), 3, 1, (b8 x.o.win), 4, 1, (b8 x.o.size), 5, 1, (b8 x.o.wait)] : Str).length : Nat) : Int)) (
.ob (0 ≤ (0 : Int) ∧ (0 : Int) < ((([1, 1, (b8 x.o.baud), 2, 1, (b8 x.o.silent), 3, 1, (b8 x.o.win), 4, 1, (b8 x.o.size), 5, 1, (b8 x.o.wait)] : Str).length : Nat) : Int)) (
.ob ((0 ≤ (3 : Int) ∧ (3 : Int) ≤ ((15 : Nat) : Int)) ∧ (0 ≤ (2 : Int) ∧ (2 : Int) ≤ ((3 : Nat) : Int))) (
.ob ((2 = 2 ∧ ([.int .i64 1, .str [(b8 x.o.baud)]] : List V).length = 1 * 2) ∧ allOne [.int .i64 1, .str [(b8 x.o.baud)]] = true ∧ 1 * 24 ≤ 70368744177664) (
.ob ((True) ∧ (0 ≤ (3 : Int) ∧ (3 : Int) ≤ ((15 : Nat) : Int))) (
.ob (binV .neq (.str [2, 1, (b8 x.o.silent), 3, 1, (b8 x.o.win), 4, 1, (b8 x.o.size), 5, 1, (b8 x.o.wait)]) (.str []) = some (.bool true)) (
.ob (0 ≤ (1 : Int) ∧ (1 : Int) < ((([2, 1, (b8 x.o.silent), 3, 1, (b8 x.o.win), 4, 1, (b8 x.o.size), 5, 1, (b8 x.o.wait)] : Str).length : Nat) : Int)) (
.ob (0 ≤ (1 : Int) ∧ (1 : Int) < ((([2, 1, (b8 x.o.silent), 3, 1, (b8 x.o.win), 4, 1, (b8 x.o.size), 5, 1, (b8 x.o.wait)] : Str).length : Nat) : Int)) (
.ob (0 ≤ (1 : Int) ∧ (1 : Int) < ((([2, 1, (b8 x.o.silent), 3, 1, (b8 x.o.win), 4, 1, (b8 x.o.size), 5, 1, (b8 x.o.wait)] : Str).length : Nat) : Int)) (
.ob (0 ≤ (0 : Int) ∧ (0 : Int) < ((([2, 1, (b8 x.o.silent), 3, 1, (b8 x.o.win), 4, 1, (b8 x.o.size), 5, 1, (b8 x.o.wait)] : Str).length : Nat) : Int)) (
.ob ((0 ≤ (3 : Int) ∧ (3 : Int) ≤ ((12 : Nat) : Int)) ∧ (0 ≤ (2 : Int) ∧ (2 : Int) ≤ ((3 : Nat) : Int))) (
.ob ((2 = 2 ∧ ([.int .i64 2, .str [(b8 x.o.silent)]] : List V).length = 1 * 2) ∧ allOne [.int .i64 2, .str [(b8 x.o.silent)]] = true ∧ 2 = 2 ∧ 2 * 24 ≤ 70368744177664 ∧ ([.int .i64 1, .str [(b8 x.o.baud)]] : List V).length = 1 * 2) (
.ob ((True) ∧ (0 ≤ (3 : Int) ∧ (3 : Int) ≤ ((12 : Nat) : Int))) (
.ob (binV .neq (.str [3, 1, (b8 x.o.win), 4, 1, (b8 x.o.size), 5, 1, (b8 x.o.wait)]) (.str []) = some (.bool true)) (
.ob (0 ≤ (1 : Int) ∧ (1 : Int) < ((([3, 1, (b8 x.o.win), 4, 1, (b8 x.o.size), 5, 1, (b8 x.o.wait)] : Str).length : Nat) : Int)) (
.ob (0 ≤ (1 : Int) ∧ (1 : Int) < ((([3, 1, (b8 x.o.win), 4, 1, (b8 x.o.size), 5, 1, (b8 x.o.wait)] : Str).length : Nat) : Int)) (
.ob (0 ≤ (1 : Int) ∧ (1 : Int) < ((([3, 1, (b8 x.o.win), 4, 1, (b8 x.o.size), 5, 1, (b8 x.o.wait)] : Str).length : Nat) : Int)) (
.ob (0 ≤ (0 : Int) ∧ (0 : Int) < ((([3, 1, (b8 x.o.win), 4, 1, (b8 x.o.size), 5, 1, (b8 x.o.wait)] : Str).length : Nat) : Int)) (
.ob ((0 ≤ (3 : Int) ∧ (3 : Int) ≤ ((9 : Nat) : Int)) ∧ (0 ≤ (2 : Int) ∧ (2 : Int) ≤ ((3 : Nat) : Int))) (
.ob ((2 = 2 ∧ ([.int .i64 3, .str [(b8 x.o.win)]] : List V).length = 1 * 2) ∧ allOne [.int .i64 3, .str [(b8 x.o.win)]] = true ∧ 2 = 2 ∧ 3 * 24 ≤ 70368744177664 ∧ ([.int .i64 1, .str [(b8 x.o.baud)], .int .i64 2, .str [(b8 x.o.silent)]] : List V).length = 2 * 2) (
.ob ((True) ∧ (0 ≤ (3 : Int) ∧ (3 : Int) ≤ ((9 : Nat) : Int))) (
.ob (binV .neq (.str [4, 1, (b8 x.o.size), 5, 1, (b8 x.o.wait)]) (.str []) = some (.bool true)) (
.ob (0 ≤ (1 : Int) ∧ (1 : Int) < ((([4, 1, (b8 x.o.size), 5, 1, (b8 x.o.wait)] : Str).length : Nat) : Int)) (
.ob (0 ≤ (1 : Int) ∧ (1 : Int) < ((([4, 1, (b8 x.o.size), 5, 1, (b8 x.o.wait)] : Str).length : Nat) : Int)) (
.ob (0 ≤ (1 : Int) ∧ (1 : Int) < ((([4, 1, (b8 x.o.size), 5, 1, (b8 x.o.wait)] : Str).length : Nat) : Int)) (
.ob (0 ≤ (0 : Int) ∧ (0 : Int) < ((([4, 1, (b8 x.o.size), 5, 1, (b8 x.o.wait)] : Str).length : Nat) : Int)) (
.ob ((0 ≤ (3 : Int) ∧ (3 : Int) ≤ ((6 : Nat) : Int)) ∧ (0 ≤ (2 : Int) ∧ (2 : Int) ≤ ((3 : Nat) : Int))) (
.ob ((2 = 2 ∧ ([.int .i64 4, .str [(b8 x.o.size)]] : List V).length = 1 * 2) ∧ allOne [.int .i64 4, .str [(b8 x.o.size)]] = true ∧ 2 = 2 ∧ 4 * 24 ≤ 70368744177664 ∧ ([.int .i64 1, .str [(b8 x.o.baud)], .int .i64 2, .str [(b8 x.o.silent)], .int .i64 3, .str [(b8 x.o.win)]] : List V).length = 3 * 2) (
.ob ((True) ∧ (0 ≤ (3 : Int) ∧ (3 : Int) ≤ ((6 : Nat) : Int))) (
.ob (binV .neq (.str [5, 1, (b8 x.o.wait)]) (.str []) = some (.bool true)) (
.ob (0 ≤ (1 : Int) ∧ (1 : Int) < ((([5, 1, (b8 x.o.wait)] : Str).length : Nat) : Int)) (
.ob (0 ≤ (1 : Int) ∧ (1 : Int) < ((([5, 1, (b8 x.o.wait)] : Str).length : Nat) : Int)) (
.ob (0 ≤ (1 : Int) ∧ (1 : Int) < ((([5, 1, (b8 x.o.wait)] : Str).length : Nat) : Int)) (
.ob (0 ≤ (0 : Int) ∧ (0 : Int) < ((([5, 1, (b8 x.o.wait)] : Str).length : Nat) : Int)) (
.ob ((0 ≤ (3 : Int) ∧ (3 : Int) ≤ ((3 : Nat) : Int)) ∧ (0 ≤ (2 : Int) ∧ (2 : Int) ≤ ((3 : Nat) : Int))) (
.ob ((2 = 2 ∧ ([.int .i64 5, .str [(b8 x.o.wait)]] : List V).length = 1 * 2) ∧ allOne [.int .i64 5, .str [(b8 x.o.wait)]] = true ∧ 2 = 2 ∧ 5 * 24 ≤ 70368744177664 ∧ ([.int .i64 1, .str [(b8 x.o.baud)], .int .i64 2, .str [(b8 x.o.silent)], .int .i64 3, .str [(b8 x.o.win)], .int .i64 4, .str [(b8 x.o.size)]] : List V).length = 4 * 2) (
.ob ((True) ∧ (0 ≤ (3 : Int) ∧ (3 : Int) ≤ ((3 : Nat) : Int))) (
.ob (binV .neq (.str []) (.str []) = some (.bool false)) (
.ob (2 = 2 ∧ 0 ≤ (0 : Int) ∧ (0 : Int) < ((5 : Nat) : Int)) (
.ob (Gw.idxStr (.str [(b8 x.o.baud)]) (.int .i64 0) = some (.int .u8 x.o.baud)) (
.ob ((some (V.int .i64 (wrapK .i64 x.o.baud)) : Option V) = some (.int .i64 x.o.baud)) (
.ob (0 ≤ (0 : Int) ∧ (0 : Int) < ((5 : Nat) : Int)) (
.ob (2 = 2 ∧ 0 ≤ (0 : Int) ∧ (0 : Int) < ((5 : Nat) : Int)) (
.ob (2 = 2 ∧ 0 ≤ (1 : Int) ∧ (1 : Int) < ((5 : Nat) : Int)) (
.ob (Gw.idxStr (.str [(b8 x.o.silent)]) (.int .i64 0) = some (.int .u8 x.o.silent)) (
.ob ((some (V.int .i64 (wrapK .i64 x.o.silent)) : Option V) = some (.int .i64 x.o.silent)) (
.ob (0 ≤ (1 : Int) ∧ (1 : Int) < ((5 : Nat) : Int)) (
.ob (2 = 2 ∧ 0 ≤ (0 : Int) ∧ (0 : Int) < ((5 : Nat) : Int)) (
.ob (2 = 2 ∧ 0 ≤ (1 : Int) ∧ (1 : Int) < ((5 : Nat) : Int)) (
.ob (2 = 2 ∧ 0 ≤ (2 : Int) ∧ (2 : Int) < ((5 : Nat) : Int)) (
.ob (Gw.idxStr (.str [(b8 x.o.win)]) (.int .i64 0) = some (.int .u8 x.o.win)) (
.ob ((some (V.int .i64 (wrapK .i64 x.o.win)) : Option V) = some (.int .i64 x.o.win)) (
.ob (0 ≤ (2 : Int) ∧ (2 : Int) < ((5 : Nat) : Int)) (
.ob (2 = 2 ∧ 0 ≤ (0 : Int) ∧ (0 : Int) < ((5 : Nat) : Int)) (
.ob (2 = 2 ∧ 0 ≤ (1 : Int) ∧ (1 : Int) < ((5 : Nat) : Int)) (
.ob (2 = 2 ∧ 0 ≤ (2 : Int) ∧ (2 : Int) < ((5 : Nat) : Int)) (
.ob (2 = 2 ∧ 0 ≤ (3 : Int) ∧ (3 : Int) < ((5 : Nat) : Int)) (
.ob (Gw.idxStr (.str [(b8 x.o.size)]) (.int .i64 0) = some (.int .u8 x.o.size)) (
.ob ((some (V.int .i64 (wrapK .i64 x.o.size)) : Option V) = some (.int .i64 x.o.size)) (
.ob (0 ≤ (3 : Int) ∧ (3 : Int) < ((5 : Nat) : Int)) (
.ob (2 = 2 ∧ 0 ≤ (0 : Int) ∧ (0 : Int) < ((5 : Nat) : Int)) (
.ob (2 = 2 ∧ 0 ≤ (1 : Int) ∧ (1 : Int) < ((5 : Nat) : Int)) (
.ob (2 = 2 ∧ 0 ≤ (2 : Int) ∧ (2 : Int) < ((5 : Nat) : Int)) (
.ob (2 = 2 ∧ 0 ≤ (3 : Int) ∧ (3 : Int) < ((5 : Nat) : Int)) (
.ob (2 = 2 ∧ 0 ≤ (4 : Int) ∧ (4 : Int) < ((5 : Nat) : Int)) (
.ob (Gw.idxStr (.str [(b8 x.o.wait)]) (.int .i64 0) = some (.int .u8 x.o.wait)) (
.ob ((some (V.int .i64 (wrapK .i64 x.o.wait)) : Option V) = some (.int .i64 x.o.wait)) (
.ob (0 ≤ (4 : Int) ∧ (4 : Int) < ((5 : Nat) : Int)) (
.ob (0 ≤ (0 : Int) ∧ (0 : Int) < ((5 : Nat) : Int)) (
.ob (0 ≤ (1 : Int) ∧ (1 : Int) < ((5 : Nat) : Int)) (
.ob (0 ≤ (2 : Int) ∧ (2 : Int) < ((5 : Nat) : Int)) (
.ob (0 ≤ (3 : Int) ∧ (3 : Int) < ((5 : Nat) : Int)) (
.ob (0 ≤ (4 : Int) ∧ (4 : Int) < ((5 : Nat) : Int)) (
.ob (dOff [.agg [.int .i64 x.o.baud, .int .i64 x.o.silent, .int .i64 x.o.win, .int .i64 x.o.size, .int .i64 x.o.wait]]) (
.ob (pMayQ [.agg [.int .i64 x.o.baud, .int .i64 x.o.silent, .int .i64 x.o.win, .int .i64 x.o.size, .int .i64 x.o.wait]] = (.bool true)) (
.ob (binV .neq (.int .u32 (get4L [(b8 (x.src % 256)), (b8 (x.src / 256 % 256)), (b8 (x.src / 65536 % 256)), (b8 (x.src / 16777216 % 256)), (b8 (x.dst % 256)), (b8 (x.dst / 256 % 256)), (b8 (x.dst / 65536 % 256)), (b8 (x.dst / 16777216 % 256)), (b8 x.seat), (b8 x.count), 1, 1, (b8 x.o.baud), 2, 1, (b8 x.o.silent), 3, 1, (b8 x.o.win), 4, 1, (b8 x.o.size), 5, 1, (b8 x.o.wait)])) (.int .u32 0) = some (.bool true)) (
.ob (binV .neq (.int .u32 (get4L [(b8 (x.src % 256)), (b8 (x.src / 256 % 256)), (b8 (x.src / 65536 % 256)), (b8 (x.src / 16777216 % 256)), (b8 (x.dst % 256)), (b8 (x.dst / 256 % 256)), (b8 (x.dst / 65536 % 256)), (b8 (x.dst / 16777216 % 256)), (b8 x.seat), (b8 x.count), 1, 1, (b8 x.o.baud), 2, 1, (b8 x.o.silent), 3, 1, (b8 x.o.win), 4, 1, (b8 x.o.size), 5, 1, (b8 x.o.wait)])) (.int .u32 4294967295) = some (.bool true)) (
.ob (binV .neq (.int .u32 (get4L [(b8 (x.dst % 256)), (b8 (x.dst / 256 % 256)), (b8 (x.dst / 65536 % 256)), (b8 (x.dst / 16777216 % 256)), (b8 x.seat), (b8 x.count), 1, 1, (b8 x.o.baud), 2, 1, (b8 x.o.silent), 3, 1, (b8 x.o.win), 4, 1, (b8 x.o.size), 5, 1, (b8 x.o.wait)])) (.int .u32 0) = some (.bool true)) (
.ob (binV .neq (.int .u32 (get4L [(b8 (x.dst % 256)), (b8 (x.dst / 256 % 256)), (b8 (x.dst / 65536 % 256)), (b8 (x.dst / 16777216 % 256)), (b8 x.seat), (b8 x.count), 1, 1, (b8 x.o.baud), 2, 1, (b8 x.o.silent), 3, 1, (b8 x.o.win), 4, 1, (b8 x.o.size), 5, 1, (b8 x.o.wait)])) (.int .u32 4294967295) = some (.bool true)) (
.ob (binV .geq (.int .i64 x.seat) (.int .i64 0) = some (.bool true)) (
.ob (binV .lss (.int .i64 x.seat) (.int .i64 8) = some (.bool true)) (
.ob (binV .geq (.int .i64 x.count) (.int .i64 0) = some (.bool true)) (
.ob (binV .lss (.int .i64 x.count) (.int .i64 250) = some (.bool true)) (
.leaf (.tup [.agg [.int .u32 (get4L [(b8 (x.src % 256)), (b8 (x.src / 256 % 256)), (b8 (x.src / 65536 % 256)), (b8 (x.src / 16777216 % 256)), (b8 (x.dst % 256)), (b8 (x.dst / 256 % 256)), (b8 (x.dst / 65536 % 256)), (b8 (x.dst / 16777216 % 256)), (b8 x.seat), (b8 x.count), 1, 1, (b8 x.o.baud), 2, 1, (b8 x.o.silent), 3, 1, (b8 x.o.win), 4, 1, (b8 x.o.size), 5, 1, (b8 x.o.wait)]), .int .u32 (get4L [(b8 (x.dst % 256)), (b8 (x.dst / 256 % 256)), (b8 (x.dst / 65536 % 256)), (b8 (x.dst / 16777216 % 256)), (b8 x.seat), (b8 x.count), 1, 1, (b8 x.o.baud), 2, 1, (b8 x.o.silent), 3, 1, (b8 x.o.win), 4, 1, (b8 x.o.size), 5, 1, (b8 x.o.wait)]), .int .i64 x.seat, .int .i64 x.count, .int .i64 x.o.baud, .int .i64 x.o.silent, .int .i64 x.o.win, .int .i64 x.o.size, .int .i64 x.o.wait], .bool true])))))))))))))))))))))))))))))))))))))))))))))))))))))))))))))))))))))))))))))))))))))))))))))))
set_option maxRecDepth 1000000 in
theorem treeGet_eq (x : SetupL) : funT (mkXT (noPX) ((consT 78 (gD dGet4 pGet4 noV) (consT 43 (gD dOff pMayQ (fun n => match n with | 165 => some (.bool true) | _ => none)) noOX)))) (mkXP (noPX)) (mkX (noPX) ((consT 78 (gD dGet4 pGet4 noV) (consT 43 (gD dOff pMayQ (fun n => match n with | 165 => some (.bool true) | _ => none)) noOX)))) D (fun g => match g with | 131 => (fun k => match k with | 10 => some fun t h => (match h.n with | 31 => (.bool true, h) | 43 => (.bool true, h) | 55 => (.bool true, h) | 67 => (.bool true, h) | 79 => (.bool true, h) | _ => (.bool false, h)) | _ => none) | 79 => (fun k => match k with | 38 => some fun t h => (match h.n with | 96 => (.int .u8 x.o.baud, h) | 104 => (.int .u8 x.o.silent, h) | 116 => (.int .u8 x.o.win, h) | 132 => (.int .u8 x.o.size, h) | _ => (.int .u8 x.o.wait, h)) | 39 => some fun t h => (match h.n with | 96 => (.int .i64 x.o.baud, h) | 104 => (.int .i64 x.o.silent, h) | 116 => (.int .i64 x.o.win, h) | 132 => (.int .i64 x.o.size, h) | _ => (.int .i64 x.o.wait, h)) | _ => none) | 133 => (fun k => match k with | 4 => some fun t h => (.bool true, h) | 7 => some fun t h => (.bool true, h) | _ => none) | 80 => (fun k => match k with | 17 => some fun t h => (.bool true, h) | 22 => some fun t h => (.bool true, h) | 27 => some fun t h => (.bool true, h) | 32 => some fun t h => (.bool true, h) | _ => none) | _ => noOrc) (fun k => match k with | 46 => [9, 29, 34] | 79 => [15, 17, 25, 33, 57] | 80 => [8, 12, 17, 22, 27, 32] | 131 => [8, 10, 13, 17, 26] | 132 => [11, 17] | 133 => [4, 7] | _ => []) 12 (fun k => match k with | 17 => some fun t h => (.int .u8 x.seat, h) | 18 => some fun t h => (.int .i64 x.seat, h) | 20 => some fun t h => (.int .u8 x.count, h) | 21 => some fun t h => (.int .i64 x.count, h) | _ => none) [9, 29, 34] (noLt) (dOf 46) [.str (setupStr x)] (smallH []) (fun v _ => v) = treeGet x := by kernel_rfl
theorem tabGet : TabX Tryz.prog noPX ((consT 78 (gD dGet4 pGet4 noV) (consT 43 (gD dOff pMayQ (fun n => match n with | 165 => some (.bool true) | _ => none)) noOX))) := ((TabX.nil.addT (ans_may (fun n => match n with | 165 => some (.bool true) | _ => none))).addT (ans_get4 noV))
theorem satGet (x : SetupL) (h : OkSetup x) : (treeGet x).sat fun v => v = .tup [.agg x.vs, .bool true] :=
 sat_ob (show 4 ≤ _ by simp) (
sat_ob (by decide) (
sat_ob (show 4 ≤ _ by simp) (
sat_ob (by simp [Gw.idxStr]; exact b8_toNat (by have := h.seat; omega)) (
sat_ob (by rw [wrap_small (by have := h.seat; omega)]) (
sat_ob (by simp [Gw.idxStr]; exact b8_toNat (by have := h.count; omega)) (
sat_ob (by rw [wrap_small (by have := h.count; omega)]) (
sat_ob (by decide) (
sat_ob (by simp [binV]) (
sat_ob (by simp [V.beq, V.beqs, allOne, V.one, byteVs]) (
sat_ob (by simp [V.beq, V.beqs, allOne, V.one, byteVs]) (
sat_ob (by simp [V.beq, V.beqs, allOne, V.one, byteVs]) (
sat_ob (by simp [V.beq, V.beqs, allOne, V.one, byteVs]) (
sat_ob (by decide) (
sat_ob (by simp [V.beq, V.beqs, allOne, V.one, byteVs]) (
sat_ob (by decide) (
sat_ob (by simp [binV]) (
sat_ob (by simp [V.beq, V.beqs, allOne, V.one, byteVs]) (
sat_ob (by simp [V.beq, V.beqs, allOne, V.one, byteVs]) (
sat_ob (by simp [V.beq, V.beqs, allOne, V.one, byteVs]) (
sat_ob (by simp [V.beq, V.beqs, allOne, V.one, byteVs]) (
sat_ob (by decide) (
sat_ob (by simp [V.beq, V.beqs, allOne, V.one, byteVs]) (
sat_ob (by decide) (
sat_ob (by simp [binV]) (
sat_ob (by simp [V.beq, V.beqs, allOne, V.one, byteVs]) (
sat_ob (by simp [V.beq, V.beqs, allOne, V.one, byteVs]) (
sat_ob (by simp [V.beq, V.beqs, allOne, V.one, byteVs]) (
sat_ob (by simp [V.beq, V.beqs, allOne, V.one, byteVs]) (
sat_ob (by decide) (
sat_ob (by simp [V.beq, V.beqs, allOne, V.one, byteVs]) (
sat_ob (by decide) (
sat_ob (by simp [binV]) (
sat_ob (by simp [V.beq, V.beqs, allOne, V.one, byteVs]) (
sat_ob (by simp [V.beq, V.beqs, allOne, V.one, byteVs]) (
sat_ob (by simp [V.beq, V.beqs, allOne, V.one, byteVs]) (
sat_ob (by simp [V.beq, V.beqs, allOne, V.one, byteVs]) (
sat_ob (by decide) (
sat_ob (by simp [V.beq, V.beqs, allOne, V.one, byteVs]) (
sat_ob (by decide) (
sat_ob (by simp [binV]) (
sat_ob (by simp [V.beq, V.beqs, allOne, V.one, byteVs]) (
sat_ob (by simp [V.beq, V.beqs, allOne, V.one, byteVs]) (
sat_ob (by simp [V.beq, V.beqs, allOne, V.one, byteVs]) (
sat_ob (by simp [V.beq, V.beqs, allOne, V.one, byteVs]) (
sat_ob (by decide) (
sat_ob (by simp [V.beq, V.beqs, allOne, V.one, byteVs]) (
sat_ob (by decide) (
sat_ob (by simp [binV]) (
sat_ob (by decide) (
sat_ob (by simp [Gw.idxStr]; exact b8_toNat (by have := h.o.b; omega)) (
sat_ob (by rw [wrap_small (by have := h.o.b; omega)]) (
sat_ob (by decide) (
sat_ob (by decide) (
sat_ob (by decide) (
sat_ob (by simp [Gw.idxStr]; exact b8_toNat (by have := h.o.s; omega)) (
sat_ob (by rw [wrap_small (by have := h.o.s; omega)]) (
sat_ob (by decide) (
sat_ob (by decide) (
sat_ob (by decide) (
sat_ob (by decide) (
sat_ob (by simp [Gw.idxStr]; exact b8_toNat (by have := h.o.w; omega)) (
sat_ob (by rw [wrap_small (by have := h.o.w; omega)]) (
sat_ob (by decide) (
sat_ob (by decide) (
sat_ob (by decide) (
sat_ob (by decide) (
sat_ob (by decide) (
sat_ob (by simp [Gw.idxStr]; exact b8_toNat (by have := h.o.z; omega)) (
sat_ob (by rw [wrap_small (by have := h.o.z; omega)]) (
sat_ob (by decide) (
sat_ob (by decide) (
sat_ob (by decide) (
sat_ob (by decide) (
sat_ob (by decide) (
sat_ob (by decide) (
sat_ob (by simp [Gw.idxStr]; exact b8_toNat (by have := h.o.t; omega)) (
sat_ob (by rw [wrap_small (by have := h.o.t; omega)]) (
sat_ob (by decide) (
sat_ob (by decide) (
sat_ob (by decide) (
sat_ob (by decide) (
sat_ob (by decide) (
sat_ob (by decide) (
sat_ob trivial (
sat_ob (may_of h.o) (
sat_ob (by rw [g4 h.s]; have := h.s; simp [binV, binI]; omega) (
sat_ob (by rw [g4 h.s]; have := h.s; simp [binV, binI]; omega) (
sat_ob (by rw [g4 h.d]; have := h.d; simp [binV, binI]; omega) (
sat_ob (by rw [g4 h.d]; have := h.d; simp [binV, binI]; omega) (
sat_ob (by have := h.seat; simp [binV, binI]; omega) (
sat_ob (by have := h.seat; simp [binV, binI]; omega) (
sat_ob (by have := h.count; simp [binV, binI]; omega) (
sat_ob (by have := h.count; simp [binV, binI]; omega) (
sat_leaf (by rw [g4 h.s, g4 h.d]; rfl)))))))))))))))))))))))))))))))))))))))))))))))))))))))))))))))))))))))))))))))))))))))))))))))
theorem ans_get (orc : Nat → Option V) : AnsO Tryz.prog 46 (fun args h => (gD dGet pGet orc args h).run) := ansD orc fun args hd => by
  unfold dGet at hd
  split at hd
  · rename_i s
    obtain ⟨x, h, rfl⟩ := hd
    refine ⟨rfl, rfl, ?_⟩
    rw [get_put x h]
    exact run_plainU mixed tabGet tabD (dIs (by kernel_rfl)) (treeGet_eq x) (satGet x h)
  · exact hd.elim
theorem okSet (f t s c : Int) (a : Gw.Offer) (h1 : 0 < f ∧ f < 4294967295) (h2 : 0 < t ∧ t < 4294967295) (h3 : 0 ≤ s ∧ s < 8) (h4 : 0 ≤ c ∧ c < 250) : OkSetup ⟨f, t, s, c, fineO a⟩ := ⟨h1, h2, h3, h4, mayO_fine a⟩
theorem wait3 (a : Gw.Offer) : loL (fineO a).wait = 0 ∨ loL (fineO a).wait = 1 ∨ loL (fineO a).wait = 2 := by
  have := (mayO_fine a).t
  unfold loL
  repeat' split
  all_goals omega
theorem tm44 (n : Int) : (n.tmod 4 + 4).tmod 4 = 0 ∨ (n.tmod 4 + 4).tmod 4 = 1 ∨ (n.tmod 4 + 4).tmod 4 = 2 ∨ (n.tmod 4 + 4).tmod 4 = 3 := by
  have h1 := Int.tmod_lt_of_pos n (show (0 : Int) < 4 by decide)
  have h2 := Int.lt_tmod_of_pos n (show (0 : Int) < 4 by decide)
  have h3 := Int.tmod_lt_of_pos (n.tmod 4 + 4) (show (0 : Int) < 4 by decide)
  have h4 := Int.tmod_nonneg 4 (show 0 ≤ n.tmod 4 + 4 by omega)
  omega
theorem rem1 {n : Int} (h : (n.tmod 4 + 4).tmod 4 = 0) : binV .rem (.int .i64 n) (.int .i64 4) = some (.int .i64 0) := by
  have h1 := Int.tmod_lt_of_pos n (show (0 : Int) < 4 by decide)
  have h2 := Int.lt_tmod_of_pos n (show (0 : Int) < 4 by decide)
  have h3 : (n.tmod 4 + 4).tmod 4 = (n.tmod 4 + 4) % 4 := Int.tmod_eq_emod_of_nonneg (by omega)
  have h4 : n.tmod 4 = 0 := by omega
  simp [binV, binI, h4]
theorem rem2 {n k : Int} (h : (n.tmod 4 + 4).tmod 4 = k) : binV .rem (.int .i64 (wrapK .i64 (n.tmod 4 + 4))) (.int .i64 4) = some (.int .i64 k) := by
  have h1 := Int.tmod_lt_of_pos n (show (0 : Int) < 4 by decide)
  have h2 := Int.lt_tmod_of_pos n (show (0 : Int) < 4 by decide)
  rw [wrap_small (by omega)]
  simp [binV, binI, h]
theorem tm_bnd (n m : Int) (hm : 0 < m) : -m < n.tmod m ∧ n.tmod m < m := ⟨Int.lt_tmod_of_pos n hm, Int.tmod_lt_of_pos n hm⟩
end Go.Proofs.YtjcninlcdnkofaaGreatDoor
