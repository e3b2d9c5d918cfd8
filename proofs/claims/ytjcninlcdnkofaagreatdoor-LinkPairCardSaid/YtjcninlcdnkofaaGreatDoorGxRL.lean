/- The document's deal: its parts. -/
import Derived.Test.YtjcninlcdnkofaaGreatDoorGxP
import Derived.Test.YtjcninlcdnkofaaGreatDoorGxT15
noncomputable section
namespace Go.Proofs.YtjcninlcdnkofaaGreatDoor
open Go Gw Go.RowKit
set_option linter.unusedSimpArgs false
set_option linter.unusedVariables false
def treeRMay (o : Gw.Offer) : DT V :=
  .ob (((decide ((o.baud : Int) ≥ 1)) == true) = true → ((True) ∧ ((True) ∧ ((True) ∧ (True))))) (
.ob (((cond ((decide ((o.baud : Int) ≥ 1)) == true) (decide ((o.baud : Int) ≤ 15)) false) == true) = true → ((True) ∧ ((True) ∧ ((IntKind.i64 = IntKind.i64 ∧ (2 : Int) ≠ 0) ∧ ((True) ∧ (True)))))) (
.ob (((cond ((cond ((decide ((o.baud : Int) ≥ 1)) == true) (decide ((o.baud : Int) ≤ 15)) false) == true) ((((o.baud : Int).tmod 2) : Int) == 1) false) == true) = true → ((True) ∧ ((True) ∧ ((True) ∧ (True))))) (
.ob (((cond ((cond ((cond ((decide ((o.baud : Int) ≥ 1)) == true) (decide ((o.baud : Int) ≤ 15)) false) == true) ((((o.baud : Int).tmod 2) : Int) == 1) false) == true) (decide ((o.silent : Int) ≥ 1)) false) == true) = true → ((True) ∧ ((True) ∧ ((True) ∧ (True))))) (
.ob (((cond ((cond ((cond ((cond ((decide ((o.baud : Int) ≥ 1)) == true) (decide ((o.baud : Int) ≤ 15)) false) == true) ((((o.baud : Int).tmod 2) : Int) == 1) false) == true) (decide ((o.silent : Int) ≥ 1)) false) == true) (decide ((o.silent : Int) ≤ 7)) false) == true) = true → ((True) ∧ ((True) ∧ ((IntKind.i64 = IntKind.i64 ∧ (2 : Int) ≠ 0) ∧ ((True) ∧ (True)))))) (
.ob (((cond ((cond ((cond ((cond ((cond ((decide ((o.baud : Int) ≥ 1)) == true) (decide ((o.baud : Int) ≤ 15)) false) == true) ((((o.baud : Int).tmod 2) : Int) == 1) false) == true) (decide ((o.silent : Int) ≥ 1)) false) == true) (decide ((o.silent : Int) ≤ 7)) false) == true) ((((o.silent : Int).tmod 2) : Int) == 1) false) == true) = true → ((True) ∧ ((True) ∧ ((True) ∧ (True))))) (
.ob (((cond ((cond ((cond ((cond ((cond ((cond ((decide ((o.baud : Int) ≥ 1)) == true) (decide ((o.baud : Int) ≤ 15)) false) == true) ((((o.baud : Int).tmod 2) : Int) == 1) false) == true) (decide ((o.silent : Int) ≥ 1)) false) == true) (decide ((o.silent : Int) ≤ 7)) false) == true) ((((o.silent : Int).tmod 2) : Int) == 1) false) == true) (decide ((o.win : Int) ≥ 1)) false) == true) = true → ((True) ∧ ((True) ∧ ((True) ∧ (True))))) (
.ob (((cond ((cond ((cond ((cond ((cond ((cond ((cond ((decide ((o.baud : Int) ≥ 1)) == true) (decide ((o.baud : Int) ≤ 15)) false) == true) ((((o.baud : Int).tmod 2) : Int) == 1) false) == true) (decide ((o.silent : Int) ≥ 1)) false) == true) (decide ((o.silent : Int) ≤ 7)) false) == true) ((((o.silent : Int).tmod 2) : Int) == 1) false) == true) (decide ((o.win : Int) ≥ 1)) false) == true) (decide ((o.win : Int) ≤ 127)) false) == true) = true → ((True) ∧ ((True) ∧ ((True) ∧ (True))))) (
.ob (((cond ((cond ((cond ((cond ((cond ((cond ((cond ((cond ((decide ((o.baud : Int) ≥ 1)) == true) (decide ((o.baud : Int) ≤ 15)) false) == true) ((((o.baud : Int).tmod 2) : Int) == 1) false) == true) (decide ((o.silent : Int) ≥ 1)) false) == true) (decide ((o.silent : Int) ≤ 7)) false) == true) ((((o.silent : Int).tmod 2) : Int) == 1) false) == true) (decide ((o.win : Int) ≥ 1)) false) == true) (decide ((o.win : Int) ≤ 127)) false) == true) (decide ((o.size : Int) ≥ 1)) false) == true) = true → ((True) ∧ ((True) ∧ ((True) ∧ (True))))) (
.ob (((cond ((cond ((cond ((cond ((cond ((cond ((cond ((cond ((cond ((decide ((o.baud : Int) ≥ 1)) == true) (decide ((o.baud : Int) ≤ 15)) false) == true) ((((o.baud : Int).tmod 2) : Int) == 1) false) == true) (decide ((o.silent : Int) ≥ 1)) false) == true) (decide ((o.silent : Int) ≤ 7)) false) == true) ((((o.silent : Int).tmod 2) : Int) == 1) false) == true) (decide ((o.win : Int) ≥ 1)) false) == true) (decide ((o.win : Int) ≤ 127)) false) == true) (decide ((o.size : Int) ≥ 1)) false) == true) (decide ((o.size : Int) ≤ 15)) false) == true) = true → ((True) ∧ ((True) ∧ ((True) ∧ (True))))) (
.ob (((cond ((cond ((cond ((cond ((cond ((cond ((cond ((cond ((cond ((cond ((decide ((o.baud : Int) ≥ 1)) == true) (decide ((o.baud : Int) ≤ 15)) false) == true) ((((o.baud : Int).tmod 2) : Int) == 1) false) == true) (decide ((o.silent : Int) ≥ 1)) false) == true) (decide ((o.silent : Int) ≤ 7)) false) == true) ((((o.silent : Int).tmod 2) : Int) == 1) false) == true) (decide ((o.win : Int) ≥ 1)) false) == true) (decide ((o.win : Int) ≤ 127)) false) == true) (decide ((o.size : Int) ≥ 1)) false) == true) (decide ((o.size : Int) ≤ 15)) false) == true) (decide ((o.wait : Int) ≥ 1)) false) == true) = true → ((True) ∧ ((True) ∧ ((True) ∧ (True))))) (
.leaf (.bool (cond ((cond ((cond ((cond ((cond ((cond ((cond ((cond ((cond ((cond ((cond ((decide ((o.baud : Int) ≥ 1)) == true) (decide ((o.baud : Int) ≤ 15)) false) == true) ((((o.baud : Int).tmod 2) : Int) == 1) false) == true) (decide ((o.silent : Int) ≥ 1)) false) == true) (decide ((o.silent : Int) ≤ 7)) false) == true) ((((o.silent : Int).tmod 2) : Int) == 1) false) == true) (decide ((o.win : Int) ≥ 1)) false) == true) (decide ((o.win : Int) ≤ 127)) false) == true) (decide ((o.size : Int) ≥ 1)) false) == true) (decide ((o.size : Int) ≤ 15)) false) == true) (decide ((o.wait : Int) ≥ 1)) false) == true) (decide ((o.wait : Int) ≤ 7)) false)))))))))))))
set_option maxRecDepth 1000000 in
theorem treeRMay_eq (o : Gw.Offer) : funT (mkXT (noPX) (noOX)) (mkXP (noPX)) (mkX (noPX) (noOX)) D (fun _ => noOrc) (fun _ => []) 12 noOrc [] (noLt) (dOf 51) [.agg o.vs] (smallH []) (fun v _ => v) = treeRMay o := by kernel_rfl
theorem satRMay (o : Gw.Offer) : (treeRMay o).sat fun v => v = .bool (mayO o) := by
  simp only [treeRMay, DT.sat]
  simp [mayO]
  grind
theorem ans_rmay (orc : Nat → Option V) : AnsO Tryz.prog 51 (fun args h => (gD dOff pMayQ orc args h).run) := ansD orc fun args hd => by
  unfold dOff at hd
  split at hd
  · rename_i a b c d e
    exact ⟨rfl, rfl, run_plainU mixed TabX.nil tabD (dIs (by kernel_rfl)) (treeRMay_eq ⟨a, b, c, d, e⟩) (satRMay ⟨a, b, c, d, e⟩)⟩
  · exact hd.elim
set_option maxRecDepth 1000000 in
theorem run_rhigh : (List.range 128).all (fun n => isInt (callN (mkX noPX noOX) D 100 53 [.int .i64 (n : Int)] (smallH [])) (hiL (n : Int))) = true := by kernel_rfl
theorem ans_rhigh (orc : Nat → Option V) : AnsO Tryz.prog 53 (fun args h => (gD dHigh pHigh orc args h).run) := ansD orc fun args hd => by
  unfold dHigh at hd
  split at hd
  · rename_i n
    obtain ⟨k, rfl⟩ : ∃ k : Nat, n = (k : Int) := ⟨n.toNat, by omega⟩
    have := List.all_eq_true.1 run_rhigh k (List.mem_range.2 (by omega))
    exact ⟨rfl, rfl, run_int mixed TabX.nil.ext tabD this⟩
  · exact hd.elim
set_option maxRecDepth 1000000 in
theorem run_rlow : (List.range 8).all (fun n => isInt (callN (mkX noPX noOX) D 100 54 [.int .i64 (n : Int)] (smallH [])) (loL (n : Int))) = true := by kernel_rfl
theorem ans_rlow (orc : Nat → Option V) : AnsO Tryz.prog 54 (fun args h => (gD dLow pLow orc args h).run) := ansD orc fun args hd => by
  unfold dLow at hd
  split at hd
  · rename_i n
    obtain ⟨k, rfl⟩ : ∃ k : Nat, n = (k : Int) := ⟨n.toNat, by omega⟩
    have := List.all_eq_true.1 run_rlow k (List.mem_range.2 (by omega))
    exact ⟨rfl, rfl, run_int mixed TabX.nil.ext tabD this⟩
  · exact hd.elim
set_option maxRecDepth 1000000 in
theorem run_rsize : (List.range 4).all (fun n => isInt (callN (mkX noPX noOX) D 100 52 [.int .i64 (n : Int)] (smallH [])) (sizeL (n : Int))) = true := by kernel_rfl
theorem ans_rsize (orc : Nat → Option V) : AnsO Tryz.prog 52 (fun args h => (gD dBaud pSize orc args h).run) := ansD orc fun args hd => by
  unfold dBaud at hd
  split at hd
  · rename_i n
    obtain ⟨k, rfl⟩ : ∃ k : Nat, n = (k : Int) := ⟨n.toNat, by omega⟩
    have := List.all_eq_true.1 run_rsize k (List.mem_range.2 (by omega))
    exact ⟨rfl, rfl, run_int mixed TabX.nil.ext tabD this⟩
  · exact hd.elim
set_option maxRecDepth 1000000 in
theorem run_rbaud : (List.range 4).all (fun n => isInt (callN (mkX noPX noOX) D 100 56 [.int .i64 (n : Int)] (smallH [])) (baudL (n : Int))) = true := by kernel_rfl
theorem ans_rbaud (orc : Nat → Option V) : AnsO Tryz.prog 56 (fun args h => (gD dBaud pBaud orc args h).run) := ansD orc fun args hd => by
  unfold dBaud at hd
  split at hd
  · rename_i n
    obtain ⟨k, rfl⟩ : ∃ k : Nat, n = (k : Int) := ⟨n.toNat, by omega⟩
    have := List.all_eq_true.1 run_rbaud k (List.mem_range.2 (by omega))
    exact ⟨rfl, rfl, run_int mixed TabX.nil.ext tabD this⟩
  · exact hd.elim
set_option maxRecDepth 1000000 in
theorem run_rsil : (List.range 3).all (fun n => isInt (callN (mkX noPX noOX) D 100 57 [.int .i64 (n : Int)] (smallH [])) (silL (n : Int))) = true := by kernel_rfl
theorem ans_rsil (orc : Nat → Option V) : AnsO Tryz.prog 57 (fun args h => (gD dSil pSil orc args h).run) := ansD orc fun args hd => by
  unfold dSil at hd
  split at hd
  · rename_i n
    obtain ⟨k, rfl⟩ : ∃ k : Nat, n = (k : Int) := ⟨n.toNat, by omega⟩
    have := List.all_eq_true.1 run_rsil k (List.mem_range.2 (by omega))
    exact ⟨rfl, rfl, run_int mixed TabX.nil.ext tabD this⟩
  · exact hd.elim
set_option maxRecDepth 1000000 in
theorem run_rframe : ([8, 16, 32, 64] : List Int).all (fun s => ([32, 64, 128, 256] : List Int).all fun b => isInt (callN (mkX noPX noOX) D 100 58 [.int .i64 s, .int .i64 b] (smallH [])) (frameL s b)) = true := by kernel_rfl
theorem ans_rframe (orc : Nat → Option V) : AnsO Tryz.prog 58 (fun args h => (gD dFrame pFrame orc args h).run) := ansD orc fun args hd => by
  unfold dFrame at hd
  split at hd
  · rename_i s b
    have h1 := List.all_eq_true.1 run_rframe s (by simp; exact hd.1)
    have h2 := List.all_eq_true.1 h1 b (by simp; exact hd.2)
    exact ⟨rfl, rfl, run_int mixed TabX.nil.ext tabD h2⟩
  · exact hd.elim
def bitL (n : Int) (i : Nat) : Bool := decide (n / ((2 ^ i : Nat) : Int) % 2 = 1)
def dAt : List V → Prop
  | [.int .i64 n, .int .i64 i] => (0 ≤ n ∧ n < 16) ∧ (0 ≤ i ∧ i < 4)
  | _ => False
def pAt : List V → V
  | [.int .i64 n, .int .i64 i] => .bool (bitL n i.toNat)
  | _ => .nilp
def isBool (r : Option (V × Heap)) (m : Bool) : Bool := match r with
  | some (.bool n, _) => n == m
  | _ => false
theorem run_boolV {P : Program} (hm : P.follows .mixedOrders = true) {X : Ext} (hX : ExtS P X) {D : Nat → Option DF} (hD : Tab P D) {n f : Nat} {args : List V} {h : Heap} {m : Bool} (hc : isBool (callN X D n f args h) m = true) : Run P f args h fun r' _ => r' = .bool m := by
  unfold isBool at hc
  split at hc
  · rename_i q h1 hq
    have e : q = m := by simpa using hc
    subst e
    obtain ⟨h2, h3⟩ := sd_call hm hX hD n f args h _ _ hq
    exact ⟨h2, fun B ρ xs w hG hv H => (h3 B ρ xs w hG hv H).mono fun e w' ⟨x, ρ', e1, e2, e3, e4, e5⟩ => ⟨x, _, _, ρ', e1, rfl, e2, e3, e4, e5⟩⟩
  · cases hc
set_option maxRecDepth 1000000 in
theorem run_rat : (List.range 16).all (fun n => (List.range 4).all fun i => isBool (callN (mkX noPX noOX) D 100 55 [.int .i64 (n : Int), .int .i64 (i : Int)] (smallH [])) (bitL (n : Int) i)) = true := by kernel_rfl
theorem ans_rat (orc : Nat → Option V) : AnsO Tryz.prog 55 (fun args h => (gD dAt pAt orc args h).run) := ansD orc fun args hd => by
  unfold dAt at hd
  split at hd
  · rename_i n i
    obtain ⟨k, rfl⟩ : ∃ k : Nat, n = (k : Int) := ⟨n.toNat, by omega⟩
    obtain ⟨j, rfl⟩ : ∃ j : Nat, i = (j : Int) := ⟨i.toNat, by omega⟩
    have h1 := List.all_eq_true.1 run_rat k (List.mem_range.2 (by omega))
    have h2 := List.all_eq_true.1 h1 j (List.mem_range.2 (by omega))
    exact ⟨rfl, rfl, run_boolV mixed TabX.nil.ext tabD h2⟩
  · exact hd.elim
def bdF (a b : Gw.Offer) : Nat → Int
  | 0 => 0
  | r + 1 => if (cond (bitL a.baud r == true) (bitL b.baud r) false) = true then baudL r else bdF a b r
def slF (a b : Gw.Offer) : Nat → Int
  | 0 => 0
  | r + 1 => if (cond (bitL a.silent (2 - r) == true) (bitL b.silent (2 - r)) false) = true then silL ((2 - r : Nat) : Int) else slF a b r
def wnF (F : Int) : Nat → Int
  | 0 => 1
  | r + 1 => if ((r + 1 : Nat) : Int) * F ≤ 30 then ((r + 1 : Nat) : Int) else wnF F r
theorem bd_t {a b : Gw.Offer} {r : Nat} (h1 : (bitL a.baud r == true) = true) (h2 : bitL b.baud r = true) : bdF a b (r + 1) = baudL r := if_pos (by rw [h1, h2]; rfl)
theorem bd_f2 {a b : Gw.Offer} {r : Nat} (h1 : (bitL a.baud r == true) = true) (h2 : bitL b.baud r = false) : bdF a b (r + 1) = bdF a b r := if_neg (by rw [h1, h2]; simp)
theorem bd_f1 {a b : Gw.Offer} {r : Nat} (h1 : (bitL a.baud r == true) = false) : bdF a b (r + 1) = bdF a b r := if_neg (by rw [h1]; simp)
theorem sl_t {a b : Gw.Offer} {r : Nat} (h1 : (bitL a.silent (2 - r) == true) = true) (h2 : bitL b.silent (2 - r) = true) : slF a b (r + 1) = silL ((2 - r : Nat) : Int) := if_pos (by rw [h1, h2]; rfl)
theorem sl_f2 {a b : Gw.Offer} {r : Nat} (h1 : (bitL a.silent (2 - r) == true) = true) (h2 : bitL b.silent (2 - r) = false) : slF a b (r + 1) = slF a b r := if_neg (by rw [h1, h2]; simp)
theorem sl_f1 {a b : Gw.Offer} {r : Nat} (h1 : (bitL a.silent (2 - r) == true) = false) : slF a b (r + 1) = slF a b r := if_neg (by rw [h1]; simp)
theorem bd_fin {a b : Gw.Offer} (ha : MayO a) (hb : MayO b) : bdF a b 4 = baudL (hiL (cbaud a b)) := by
  have key : ∀ x < 16, ∀ y < 16, x % 2 = 1 → y % 2 = 1 → bdF ⟨(x : Nat), 0, 0, 0, 0⟩ ⟨(y : Nat), 0, 0, 0, 0⟩ 4 = baudL (hiL ((Nat.land x y : Nat) : Int)) := by decide
  have h1 := ha.b
  have h2 := hb.b
  have h3 := ha.b1
  have h4 := hb.b1
  have k := key a.baud.toNat (by omega) b.baud.toNat (by omega) (by omega) (by omega)
  have e1 : ((a.baud.toNat : Nat) : Int) = a.baud := by omega
  have e2 : ((b.baud.toNat : Nat) : Int) = b.baud := by omega
  rw [e1, e2] at k
  have e3 : cbaud a b = ((Nat.land a.baud.toNat b.baud.toNat : Nat) : Int) := by
    unfold cbaud band
    rw [bits_small (n := a.baud) (by omega)]
  rw [e3]
  exact k
theorem sl_fin {a b : Gw.Offer} (ha : MayO a) (hb : MayO b) : slF a b 3 = 200 := by
  have h3 := ha.s1
  have h4 := hb.s1
  have e1 : bitL a.silent 0 = true := by simp [bitL]; omega
  have e2 : bitL b.silent 0 = true := by simp [bitL]; omega
  show (if (cond (bitL a.silent 0 == true) (bitL b.silent 0) false) = true then silL 0 else slF a b 2) = 200
  rw [e1, e2]
  rfl
theorem wn_fin {H F : Int} (hH : 0 ≤ H ∧ H ≤ 6) (hF : F = 1 ∨ F = 2 ∨ F = 3 ∨ F = 5) : wnF F (H + 1).toNat = winL (H + 1) F := by
  have : H = 0 ∨ H = 1 ∨ H = 2 ∨ H = 3 ∨ H = 4 ∨ H = 5 ∨ H = 6 := by omega
  rcases this with rfl | rfl | rfl | rfl | rfl | rfl | rfl <;> rcases hF with rfl | rfl | rfl | rfl <;> decide
theorem hi6 {n : Int} (h : 1 ≤ n ∧ n ≤ 127) : 0 ≤ hiL n ∧ hiL n ≤ 6 := by
  unfold hiL
  repeat' split
  all_goals omega
theorem hi3 {n : Int} (h : 1 ≤ n ∧ n ≤ 15) : 0 ≤ hiL n ∧ hiL n < 4 := by
  unfold hiL
  repeat' split
  all_goals omega
theorem frm_fin {z : Int} (hz : z = 8 ∨ z = 16 ∨ z = 32 ∨ z = 64) {u : Int} (hu : u = 32 ∨ u = 64 ∨ u = 128 ∨ u = 256) : frameL z u = 1 ∨ frameL z u = 2 ∨ frameL z u = 3 ∨ frameL z u = 5 := by
  rcases hz with rfl | rfl | rfl | rfl <;> rcases hu with rfl | rfl | rfl | rfl <;> decide
theorem size_fin {n : Int} (h : 0 ≤ n ∧ n < 4) : sizeL n = 8 ∨ sizeL n = 16 ∨ sizeL n = 32 ∨ sizeL n = 64 := by
  have : n = 0 ∨ n = 1 ∨ n = 2 ∨ n = 3 := by omega
  rcases this with rfl | rfl | rfl | rfl <;> decide
theorem baud_fin {n : Int} (h : 0 ≤ n ∧ n < 4) : baudL n = 32 ∨ baudL n = 64 ∨ baudL n = 128 ∨ baudL n = 256 := by
  have : n = 0 ∨ n = 1 ∨ n = 2 ∨ n = 3 := by omega
  rcases this with rfl | rfl | rfl | rfl <;> decide
end Go.Proofs.YtjcninlcdnkofaaGreatDoor

/- The document's deal: its loops. -/
noncomputable section
namespace Go.Proofs.YtjcninlcdnkofaaGreatDoor
open Go Gw Go.RowKit
set_option linter.unusedSimpArgs false
set_option linter.unusedVariables false
def oxRDL : OTab := (consT 55 (gD dAt pAt noV) (consT 58 (gD dFrame pFrame noV) (consT 57 (gD dSil pSil noV) (consT 56 (gD dBaud pBaud noV) (consT 52 (gD dBaud pSize noV) (consT 54 (gD dLow pLow noV) (consT 53 (gD dHigh pHigh noV) (consT 51 (gD dOff pMayQ noV) noOX))))))))
theorem tabRDL : TabX Tryz.prog noPX oxRDL := ((((((((TabX.nil.addT (ans_rmay noV)).addT (ans_rhigh noV)).addT (ans_rlow noV)).addT (ans_rsize noV)).addT (ans_rbaud noV)).addT (ans_rsil noV)).addT (ans_rframe noV)).addT (ans_rat noV))
theorem hcb {a b : Gw.Offer} (ha : MayO a) (hb : MayO b) : 0 ≤ hiL (cbaud a b) ∧ hiL (cbaud a b) < 4 := hi3 (cbB ha hb)
theorem hFr {a b : Gw.Offer} (ha : MayO a) (hb : MayO b) : (frameL (sizeL (hiL b.size)) (bdF a b 4)) = 1 ∨ (frameL (sizeL (hiL b.size)) (bdF a b 4)) = 2 ∨ (frameL (sizeL (hiL b.size)) (bdF a b 4)) = 3 ∨ (frameL (sizeL (hiL b.size)) (bdF a b 4)) = 5 := by
  rw [bd_fin ha hb]
  exact frm_fin (size_fin (hi3 hb.z)) (baud_fin (hcb ha hb))
theorem wn_t {F : Int} {r : Nat} (h : ((r + 1 : Nat) : Int) * F ≤ 30) : wnF F (r + 1) = ((r + 1 : Nat) : Int) := if_pos h
theorem wn_f {F : Int} {r : Nat} (h : ¬ ((r + 1 : Nat) : Int) * F ≤ 30) : wnF F (r + 1) = wnF F r := if_neg h
inductive IRB
  | c0 (j : Nat)
  | c1 (j : Nat)
  | c2 (j : Nat)
  | c3 (j : Nat)
  | c4 (j : Nat)
def RWRB (a : Gw.Offer) (b : Gw.Offer) (w0 : V) (w1 : V) : List (Option Blk) := [some .dead, some .dead, some .dead, some (.cells false [.int .i64 a.baud, .int .i64 a.silent, .int .i64 a.win, .int .i64 a.size, .int .i64 a.wait]), some (.cells false [.int .i64 b.baud, .int .i64 b.silent, .int .i64 b.win, .int .i64 b.size, .int .i64 b.wait]), some (.cells false [.int .i64 0, .int .i64 0, .int .i64 0, .int .i64 0, .int .i64 0]), none, none, none, none, none, none, none, none, none, some (.cells false [w1, .int .i64 0, .int .i64 1, .int .i64 (sizeL (hiL b.size)), .int .i64 (loL b.wait)]), none]
def SNRB (a : Gw.Offer) (b : Gw.Offer) (w0 : V) (w1 : V) : Snap := ([.agg [.int .i64 a.baud, .int .i64 a.silent, .int .i64 a.win, .int .i64 a.size, .int .i64 a.wait], .agg [.int .i64 b.baud, .int .i64 b.silent, .int .i64 b.win, .int .i64 b.size, .int .i64 b.wait], .ptr 3 0, .ptr 4 0, .ptr 5 0, .bool false, .ptr 15 0, w0, .agg [.int .i64 a.baud, .int .i64 a.silent, .int .i64 a.win, .int .i64 a.size, .int .i64 a.wait], .bool true, .bool false, .bool false, .agg [.int .i64 b.baud, .int .i64 b.silent, .int .i64 b.win, .int .i64 b.size, .int .i64 b.wait], .bool true, .bool false, .bool false, .ptr 4 3, .int .i64 b.size, .int .i64 (hiL b.size), .int .i64 (sizeL (hiL b.size)), .ptr 4 4, .int .i64 b.wait, .int .i64 (loL b.wait), .agg [.int .i64 0, .int .i64 0, .int .i64 1, .int .i64 (sizeL (hiL b.size)), .int .i64 (loL b.wait)]], RWRB a b w0 w1)
def SSRB (a : Gw.Offer) (b : Gw.Offer) (i : IRB) : Snap := match i with
  | .c0 j => SNRB a b (.int .i64 0) (.int .i64 (bdF a b 0))
  | .c1 j => SNRB a b (.int .i64 1) (.int .i64 (bdF a b 1))
  | .c2 j => SNRB a b (.int .i64 2) (.int .i64 (bdF a b 2))
  | .c3 j => SNRB a b (.int .i64 3) (.int .i64 (bdF a b 3))
  | .c4 j => SNRB a b (.int .i64 4) (.int .i64 (bdF a b 4))
def XNRB (a : Gw.Offer) (b : Gw.Offer) (w1 : V) : Snap := ([.agg [.int .i64 a.baud, .int .i64 a.silent, .int .i64 a.win, .int .i64 a.size, .int .i64 a.wait], .agg [.int .i64 b.baud, .int .i64 b.silent, .int .i64 b.win, .int .i64 b.size, .int .i64 b.wait], .ptr 3 0, .ptr 4 0, .ptr 5 0, .bool false, .ptr 15 0, .agg [.int .i64 a.baud, .int .i64 a.silent, .int .i64 a.win, .int .i64 a.size, .int .i64 a.wait], .bool true, .bool false, .bool false, .agg [.int .i64 b.baud, .int .i64 b.silent, .int .i64 b.win, .int .i64 b.size, .int .i64 b.wait], .bool true, .bool false, .bool false, .ptr 4 3, .int .i64 b.size, .int .i64 (hiL b.size), .int .i64 (sizeL (hiL b.size)), .ptr 4 4, .int .i64 b.wait, .int .i64 (loL b.wait), .agg [.int .i64 0, .int .i64 0, .int .i64 1, .int .i64 (sizeL (hiL b.size)), .int .i64 (loL b.wait)]], [some .dead, some .dead, some .dead, some (.cells false [.int .i64 a.baud, .int .i64 a.silent, .int .i64 a.win, .int .i64 a.size, .int .i64 a.wait]), some (.cells false [.int .i64 b.baud, .int .i64 b.silent, .int .i64 b.win, .int .i64 b.size, .int .i64 b.wait]), some (.cells false [.int .i64 0, .int .i64 0, .int .i64 0, .int .i64 0, .int .i64 0]), none, none, none, none, none, none, none, none, none, some (.cells false [w1, .int .i64 0, .int .i64 1, .int .i64 (sizeL (hiL b.size)), .int .i64 (loL b.wait)]), none])
def XRB (a : Gw.Offer) (b : Gw.Offer) : Snap := XNRB a b (.int .i64 (bdF a b 4))
def invRB (a : Gw.Offer) (b : Gw.Offer) (i : IRB) : Prop := match i with
  | .c0 j => True
  | .c1 j => True
  | .c2 j => True
  | .c3 j => True
  | .c4 j => True
def muRB (i : IRB) : Nat := match i with
  | .c0 j => 5
  | .c1 j => 4
  | .c2 j => 3
  | .c3 j => 2
  | .c4 j => 1
def loopRB (a : Gw.Offer) (b : Gw.Offer) : LoopD IRB where
  nt := 80
  fr := fun ex => match ex with | .normal => ⟨[0, 1, 2, 3, 4, 5, 6, 7, 10, 11, 12, 13, 14, 15, 16, 17, 19, 20, 21, 22, 23, 24, 25, 26], 17, []⟩ | .exit _ => ⟨[0, 1, 2, 3, 4, 5, 6, 10, 11, 12, 13, 14, 15, 16, 17, 19, 20, 21, 22, 23, 24, 25, 26], 17, []⟩ | .ret => ⟨[], 17, []⟩
  S := SSRB a b
  out := fun i => .ob (invRB a b i) (.leaf ((.exit 0), XRB a b))
  pick := fun _ => .c0 0
def lpRB : DC := (((loopsIn 0 (dOf 23).body)[0]?).getD (0, .skip)).2
def orcRB (a : Gw.Offer) (b : Gw.Offer) (i : IRB) : Orc := match i with
  | .c0 j => noOrc
  | .c1 j => noOrc
  | .c2 j => noOrc
  | .c3 j => noOrc
  | .c4 j => noOrc
def orcsRB (a : Gw.Offer) (b : Gw.Offer) (i : IRB) : Nat → Orc := match i with
  | .c0 j => (fun _ => noOrc)
  | .c1 j => (fun _ => noOrc)
  | .c2 j => (fun _ => noOrc)
  | .c3 j => (fun _ => noOrc)
  | .c4 j => (fun _ => noOrc)
def stsRB (i : IRB) : Nat → List Nat := match i with
  | .c0 j => (fun k => match k with | 23 => [28] | _ => [])
  | .c1 j => (fun k => match k with | 23 => [28] | _ => [])
  | .c2 j => (fun k => match k with | 23 => [28] | _ => [])
  | .c3 j => (fun k => match k with | 23 => [28] | _ => [])
  | .c4 j => (fun k => match k with | 23 => [28] | _ => [])
def stRB (i : IRB) : List Nat := match i with
  | .c0 j => [28]
  | .c1 j => [28]
  | .c2 j => [28]
  | .c3 j => [28]
  | .c4 j => [28]
def treeRB_0 (a : Gw.Offer) (b : Gw.Offer) (j : Nat) : DT (Ex × Snap) :=
  .ob (dAt [.int .i64 a.baud, .int .i64 0]) (
.node ((bitL a.baud 0) == true) (
.ob (dAt [.int .i64 b.baud, .int .i64 0]) (
.node (bitL b.baud 0) (
.ob (dBaud [.int .i64 0]) (
.leaf (.normal, SNRB a b (.int .i64 1) (.int .i64 (baudL 0))))) (
.leaf (.normal, SNRB a b (.int .i64 1) (.int .i64 (bdF a b 0)))))) (
.leaf (.normal, SNRB a b (.int .i64 1) (.int .i64 (bdF a b 0)))))
set_option maxRecDepth 1000000 in
theorem treeRB_0_eq (a : Gw.Offer) (b : Gw.Offer) (j : Nat) : codeT (callT (mkXT noPX oxRDL) (mkXP noPX) (mkX noPX oxRDL) D (orcsRB a b (.c0 j)) (stsRB (.c0 j)) 13) (callN (mkX noPX oxRDL) D 13) (mkXP noPX) (orcRB a b (.c0 j)) (stRB (.c0 j)) noLt 0 lpRB ((loopRB a b).t0 (.c0 j)) [] ((loopRB a b).h0 (.c0 j)) (loopRB a b).end_ = treeRB_0 a b j := by kernel_rfl
def treeRB_1 (a : Gw.Offer) (b : Gw.Offer) (j : Nat) : DT (Ex × Snap) :=
  .ob (dAt [.int .i64 a.baud, .int .i64 1]) (
.node ((bitL a.baud 1) == true) (
.ob (dAt [.int .i64 b.baud, .int .i64 1]) (
.node (bitL b.baud 1) (
.ob (dBaud [.int .i64 1]) (
.leaf (.normal, SNRB a b (.int .i64 2) (.int .i64 (baudL 1))))) (
.leaf (.normal, SNRB a b (.int .i64 2) (.int .i64 (bdF a b 1)))))) (
.leaf (.normal, SNRB a b (.int .i64 2) (.int .i64 (bdF a b 1)))))
set_option maxRecDepth 1000000 in
theorem treeRB_1_eq (a : Gw.Offer) (b : Gw.Offer) (j : Nat) : codeT (callT (mkXT noPX oxRDL) (mkXP noPX) (mkX noPX oxRDL) D (orcsRB a b (.c1 j)) (stsRB (.c1 j)) 13) (callN (mkX noPX oxRDL) D 13) (mkXP noPX) (orcRB a b (.c1 j)) (stRB (.c1 j)) noLt 0 lpRB ((loopRB a b).t0 (.c1 j)) [] ((loopRB a b).h0 (.c1 j)) (loopRB a b).end_ = treeRB_1 a b j := by kernel_rfl
def treeRB_2 (a : Gw.Offer) (b : Gw.Offer) (j : Nat) : DT (Ex × Snap) :=
  .ob (dAt [.int .i64 a.baud, .int .i64 2]) (
.node ((bitL a.baud 2) == true) (
.ob (dAt [.int .i64 b.baud, .int .i64 2]) (
.node (bitL b.baud 2) (
.ob (dBaud [.int .i64 2]) (
.leaf (.normal, SNRB a b (.int .i64 3) (.int .i64 (baudL 2))))) (
.leaf (.normal, SNRB a b (.int .i64 3) (.int .i64 (bdF a b 2)))))) (
.leaf (.normal, SNRB a b (.int .i64 3) (.int .i64 (bdF a b 2)))))
set_option maxRecDepth 1000000 in
theorem treeRB_2_eq (a : Gw.Offer) (b : Gw.Offer) (j : Nat) : codeT (callT (mkXT noPX oxRDL) (mkXP noPX) (mkX noPX oxRDL) D (orcsRB a b (.c2 j)) (stsRB (.c2 j)) 13) (callN (mkX noPX oxRDL) D 13) (mkXP noPX) (orcRB a b (.c2 j)) (stRB (.c2 j)) noLt 0 lpRB ((loopRB a b).t0 (.c2 j)) [] ((loopRB a b).h0 (.c2 j)) (loopRB a b).end_ = treeRB_2 a b j := by kernel_rfl
def treeRB_3 (a : Gw.Offer) (b : Gw.Offer) (j : Nat) : DT (Ex × Snap) :=
  .ob (dAt [.int .i64 a.baud, .int .i64 3]) (
.node ((bitL a.baud 3) == true) (
.ob (dAt [.int .i64 b.baud, .int .i64 3]) (
.node (bitL b.baud 3) (
.ob (dBaud [.int .i64 3]) (
.leaf (.normal, SNRB a b (.int .i64 4) (.int .i64 (baudL 3))))) (
.leaf (.normal, SNRB a b (.int .i64 4) (.int .i64 (bdF a b 3)))))) (
.leaf (.normal, SNRB a b (.int .i64 4) (.int .i64 (bdF a b 3)))))
set_option maxRecDepth 1000000 in
theorem treeRB_3_eq (a : Gw.Offer) (b : Gw.Offer) (j : Nat) : codeT (callT (mkXT noPX oxRDL) (mkXP noPX) (mkX noPX oxRDL) D (orcsRB a b (.c3 j)) (stsRB (.c3 j)) 13) (callN (mkX noPX oxRDL) D 13) (mkXP noPX) (orcRB a b (.c3 j)) (stRB (.c3 j)) noLt 0 lpRB ((loopRB a b).t0 (.c3 j)) [] ((loopRB a b).h0 (.c3 j)) (loopRB a b).end_ = treeRB_3 a b j := by kernel_rfl
def treeRB_4 (a : Gw.Offer) (b : Gw.Offer) (j : Nat) : DT (Ex × Snap) :=
  .leaf ((.exit 0), XNRB a b (.int .i64 (bdF a b 4)))
set_option maxRecDepth 1000000 in
theorem treeRB_4_eq (a : Gw.Offer) (b : Gw.Offer) (j : Nat) : codeT (callT (mkXT noPX oxRDL) (mkXP noPX) (mkX noPX oxRDL) D (orcsRB a b (.c4 j)) (stsRB (.c4 j)) 13) (callN (mkX noPX oxRDL) D 13) (mkXP noPX) (orcRB a b (.c4 j)) (stRB (.c4 j)) noLt 0 lpRB ((loopRB a b).t0 (.c4 j)) [] ((loopRB a b).h0 (.c4 j)) (loopRB a b).end_ = treeRB_4 a b j := by kernel_rfl
def treeRBL (a : Gw.Offer) (b : Gw.Offer) (i : IRB) : DT (Ex × Snap) := match i with
  | .c0 j => treeRB_0 a b j
  | .c1 j => treeRB_1 a b j
  | .c2 j => treeRB_2 a b j
  | .c3 j => treeRB_3 a b j
  | .c4 j => treeRB_4 a b j
theorem roundRB (a : Gw.Offer) (b : Gw.Offer) (ha : MayO a) (hb : MayO b) (i : IRB) (Pr : Ex × Snap → Prop) (h : ((loopRB a b).out i).sat Pr) : (treeRBL a b i).sat ((loopRB a b).next muRB i Pr) := by
  match i with
  | .c0 j =>
    have hi : True := h.1
    have hX := h.2
    exact sat_ob (by have := ha.b; show (0 ≤ a.baud ∧ a.baud < 16) ∧ (0 ≤ (0 : Int) ∧ (0 : Int) < 4); omega) (
sat_node (fun hc1 => sat_ob (by have := hb.b; show (0 ≤ b.baud ∧ b.baud < 16) ∧ (0 ≤ (0 : Int) ∧ (0 : Int) < 4); omega) (
sat_node (fun hc2 => sat_ob (by show (0 : Int) ≤ 0 ∧ (0 : Int) < 4; decide) (
sat_leaf (⟨.c1 0, (by show SNRB a b (.int .i64 1) (.int .i64 (baudL 0)) = SNRB a b (.int .i64 1) (.int .i64 (bdF a b 1)); rw [show (bdF a b 1) = (baudL 0) from bd_t (r := 0) hc1 hc2]), (by show 4 < 5; decide), ⟨trivial, hX⟩⟩)))
 (fun hc2 => sat_leaf (⟨.c1 0, (by show SNRB a b (.int .i64 1) (.int .i64 (bdF a b 0)) = SNRB a b (.int .i64 1) (.int .i64 (bdF a b 1)); rw [show (bdF a b 1) = (bdF a b 0) from bd_f2 (r := 0) hc1 hc2]), (by show 4 < 5; decide), ⟨trivial, hX⟩⟩))))
 (fun hc1 => sat_leaf (⟨.c1 0, (by show SNRB a b (.int .i64 1) (.int .i64 (bdF a b 0)) = SNRB a b (.int .i64 1) (.int .i64 (bdF a b 1)); rw [show (bdF a b 1) = (bdF a b 0) from bd_f1 (r := 0) hc1]), (by show 4 < 5; decide), ⟨trivial, hX⟩⟩)))
  | .c1 j =>
    have hi : True := h.1
    have hX := h.2
    exact sat_ob (by have := ha.b; show (0 ≤ a.baud ∧ a.baud < 16) ∧ (0 ≤ (1 : Int) ∧ (1 : Int) < 4); omega) (
sat_node (fun hc1 => sat_ob (by have := hb.b; show (0 ≤ b.baud ∧ b.baud < 16) ∧ (0 ≤ (1 : Int) ∧ (1 : Int) < 4); omega) (
sat_node (fun hc2 => sat_ob (by show (0 : Int) ≤ 1 ∧ (1 : Int) < 4; decide) (
sat_leaf (⟨.c2 0, (by show SNRB a b (.int .i64 2) (.int .i64 (baudL 1)) = SNRB a b (.int .i64 2) (.int .i64 (bdF a b 2)); rw [show (bdF a b 2) = (baudL 1) from bd_t (r := 1) hc1 hc2]), (by show 3 < 4; decide), ⟨trivial, hX⟩⟩)))
 (fun hc2 => sat_leaf (⟨.c2 0, (by show SNRB a b (.int .i64 2) (.int .i64 (bdF a b 1)) = SNRB a b (.int .i64 2) (.int .i64 (bdF a b 2)); rw [show (bdF a b 2) = (bdF a b 1) from bd_f2 (r := 1) hc1 hc2]), (by show 3 < 4; decide), ⟨trivial, hX⟩⟩))))
 (fun hc1 => sat_leaf (⟨.c2 0, (by show SNRB a b (.int .i64 2) (.int .i64 (bdF a b 1)) = SNRB a b (.int .i64 2) (.int .i64 (bdF a b 2)); rw [show (bdF a b 2) = (bdF a b 1) from bd_f1 (r := 1) hc1]), (by show 3 < 4; decide), ⟨trivial, hX⟩⟩)))
  | .c2 j =>
    have hi : True := h.1
    have hX := h.2
    exact sat_ob (by have := ha.b; show (0 ≤ a.baud ∧ a.baud < 16) ∧ (0 ≤ (2 : Int) ∧ (2 : Int) < 4); omega) (
sat_node (fun hc1 => sat_ob (by have := hb.b; show (0 ≤ b.baud ∧ b.baud < 16) ∧ (0 ≤ (2 : Int) ∧ (2 : Int) < 4); omega) (
sat_node (fun hc2 => sat_ob (by show (0 : Int) ≤ 2 ∧ (2 : Int) < 4; decide) (
sat_leaf (⟨.c3 0, (by show SNRB a b (.int .i64 3) (.int .i64 (baudL 2)) = SNRB a b (.int .i64 3) (.int .i64 (bdF a b 3)); rw [show (bdF a b 3) = (baudL 2) from bd_t (r := 2) hc1 hc2]), (by show 2 < 3; decide), ⟨trivial, hX⟩⟩)))
 (fun hc2 => sat_leaf (⟨.c3 0, (by show SNRB a b (.int .i64 3) (.int .i64 (bdF a b 2)) = SNRB a b (.int .i64 3) (.int .i64 (bdF a b 3)); rw [show (bdF a b 3) = (bdF a b 2) from bd_f2 (r := 2) hc1 hc2]), (by show 2 < 3; decide), ⟨trivial, hX⟩⟩))))
 (fun hc1 => sat_leaf (⟨.c3 0, (by show SNRB a b (.int .i64 3) (.int .i64 (bdF a b 2)) = SNRB a b (.int .i64 3) (.int .i64 (bdF a b 3)); rw [show (bdF a b 3) = (bdF a b 2) from bd_f1 (r := 2) hc1]), (by show 2 < 3; decide), ⟨trivial, hX⟩⟩)))
  | .c3 j =>
    have hi : True := h.1
    have hX := h.2
    exact sat_ob (by have := ha.b; show (0 ≤ a.baud ∧ a.baud < 16) ∧ (0 ≤ (3 : Int) ∧ (3 : Int) < 4); omega) (
sat_node (fun hc1 => sat_ob (by have := hb.b; show (0 ≤ b.baud ∧ b.baud < 16) ∧ (0 ≤ (3 : Int) ∧ (3 : Int) < 4); omega) (
sat_node (fun hc2 => sat_ob (by show (0 : Int) ≤ 3 ∧ (3 : Int) < 4; decide) (
sat_leaf (⟨.c4 0, (by show SNRB a b (.int .i64 4) (.int .i64 (baudL 3)) = SNRB a b (.int .i64 4) (.int .i64 (bdF a b 4)); rw [show (bdF a b 4) = (baudL 3) from bd_t (r := 3) hc1 hc2]), (by show 1 < 2; decide), ⟨trivial, hX⟩⟩)))
 (fun hc2 => sat_leaf (⟨.c4 0, (by show SNRB a b (.int .i64 4) (.int .i64 (bdF a b 3)) = SNRB a b (.int .i64 4) (.int .i64 (bdF a b 4)); rw [show (bdF a b 4) = (bdF a b 3) from bd_f2 (r := 3) hc1 hc2]), (by show 1 < 2; decide), ⟨trivial, hX⟩⟩))))
 (fun hc1 => sat_leaf (⟨.c4 0, (by show SNRB a b (.int .i64 4) (.int .i64 (bdF a b 3)) = SNRB a b (.int .i64 4) (.int .i64 (bdF a b 4)); rw [show (bdF a b 4) = (bdF a b 3) from bd_f1 (r := 3) hc1]), (by show 1 < 2; decide), ⟨trivial, hX⟩⟩)))
  | .c4 j =>
    have hi : True := h.1
    have hX := h.2
    exact sat_leaf (hX)
theorem ltRB_ok (a : Gw.Offer) (b : Gw.Offer) (ha : MayO a) (hb : MayO b) (hint : Nat → List Nat) : Lt1 Tryz.prog hint 3 (loopRB a b).lt lpRB :=
  LoopD.lt1c mixed (show TabX Tryz.prog noPX oxRDL from tabRDL) tabD (loopRB a b) muRB (fun ex => match ex with | .normal => ⟨show 3 ≤ 17 by decide, show 3 ≤ 17 by decide⟩ | .exit _ => ⟨show 3 ≤ 17 by decide, show 3 ≤ 17 by decide⟩ | .ret => ⟨show 3 ≤ 17 by decide, show 3 ≤ 17 by decide⟩) (orcs := orcsRB a b) (sts := stsRB) (orc := orcRB a b) (st := stRB) (tree := treeRBL a b)
    (fun i => match i with
    | .c0 j => treeRB_0_eq a b j
    | .c1 j => treeRB_1_eq a b j
    | .c2 j => treeRB_2_eq a b j
    | .c3 j => treeRB_3_eq a b j
    | .c4 j => treeRB_4_eq a b j) (roundRB a b ha hb)
inductive IRS
  | c0 (j : Nat)
  | c1 (j : Nat)
  | c2 (j : Nat)
  | c3 (j : Nat)
def RWRS (a : Gw.Offer) (b : Gw.Offer) (w0 : V) (w1 : V) : List (Option Blk) := [some .dead, some .dead, some .dead, some (.cells false [.int .i64 a.baud, .int .i64 a.silent, .int .i64 a.win, .int .i64 a.size, .int .i64 a.wait]), some (.cells false [.int .i64 b.baud, .int .i64 b.silent, .int .i64 b.win, .int .i64 b.size, .int .i64 b.wait]), some (.cells false [.int .i64 0, .int .i64 0, .int .i64 0, .int .i64 0, .int .i64 0]), none, none, none, none, none, none, none, none, none, some (.cells false [.int .i64 (bdF a b 4), w1, .int .i64 1, .int .i64 (sizeL (hiL b.size)), .int .i64 (loL b.wait)]), none]
def SNRS (a : Gw.Offer) (b : Gw.Offer) (w0 : V) (w1 : V) : Snap := ([.agg [.int .i64 a.baud, .int .i64 a.silent, .int .i64 a.win, .int .i64 a.size, .int .i64 a.wait], .agg [.int .i64 b.baud, .int .i64 b.silent, .int .i64 b.win, .int .i64 b.size, .int .i64 b.wait], .ptr 3 0, .ptr 4 0, .ptr 5 0, .bool false, .ptr 15 0, w0, .agg [.int .i64 a.baud, .int .i64 a.silent, .int .i64 a.win, .int .i64 a.size, .int .i64 a.wait], .bool true, .bool false, .bool false, .agg [.int .i64 b.baud, .int .i64 b.silent, .int .i64 b.win, .int .i64 b.size, .int .i64 b.wait], .bool true, .bool false, .bool false, .ptr 4 3, .int .i64 b.size, .int .i64 (hiL b.size), .int .i64 (sizeL (hiL b.size)), .ptr 4 4, .int .i64 b.wait, .int .i64 (loL b.wait), .agg [.int .i64 0, .int .i64 0, .int .i64 1, .int .i64 (sizeL (hiL b.size)), .int .i64 (loL b.wait)]], RWRS a b w0 w1)
def SSRS (a : Gw.Offer) (b : Gw.Offer) (i : IRS) : Snap := match i with
  | .c0 j => SNRS a b (.int .i64 2) (.int .i64 (slF a b 0))
  | .c1 j => SNRS a b (.int .i64 1) (.int .i64 (slF a b 1))
  | .c2 j => SNRS a b (.int .i64 0) (.int .i64 (slF a b 2))
  | .c3 j => SNRS a b (.int .i64 (-1)) (.int .i64 (slF a b 3))
def XNRS (a : Gw.Offer) (b : Gw.Offer) (w1 : V) : Snap := ([.agg [.int .i64 a.baud, .int .i64 a.silent, .int .i64 a.win, .int .i64 a.size, .int .i64 a.wait], .agg [.int .i64 b.baud, .int .i64 b.silent, .int .i64 b.win, .int .i64 b.size, .int .i64 b.wait], .ptr 3 0, .ptr 4 0, .ptr 5 0, .bool false, .ptr 15 0, .agg [.int .i64 a.baud, .int .i64 a.silent, .int .i64 a.win, .int .i64 a.size, .int .i64 a.wait], .bool true, .bool false, .bool false, .agg [.int .i64 b.baud, .int .i64 b.silent, .int .i64 b.win, .int .i64 b.size, .int .i64 b.wait], .bool true, .bool false, .bool false, .ptr 4 3, .int .i64 b.size, .int .i64 (hiL b.size), .int .i64 (sizeL (hiL b.size)), .ptr 4 4, .int .i64 b.wait, .int .i64 (loL b.wait), .agg [.int .i64 0, .int .i64 0, .int .i64 1, .int .i64 (sizeL (hiL b.size)), .int .i64 (loL b.wait)]], [some .dead, some .dead, some .dead, some (.cells false [.int .i64 a.baud, .int .i64 a.silent, .int .i64 a.win, .int .i64 a.size, .int .i64 a.wait]), some (.cells false [.int .i64 b.baud, .int .i64 b.silent, .int .i64 b.win, .int .i64 b.size, .int .i64 b.wait]), some (.cells false [.int .i64 0, .int .i64 0, .int .i64 0, .int .i64 0, .int .i64 0]), none, none, none, none, none, none, none, none, none, some (.cells false [.int .i64 (bdF a b 4), w1, .int .i64 1, .int .i64 (sizeL (hiL b.size)), .int .i64 (loL b.wait)]), none])
def XRS (a : Gw.Offer) (b : Gw.Offer) : Snap := XNRS a b (.int .i64 (slF a b 3))
def invRS (a : Gw.Offer) (b : Gw.Offer) (i : IRS) : Prop := match i with
  | .c0 j => True
  | .c1 j => True
  | .c2 j => True
  | .c3 j => True
def muRS (i : IRS) : Nat := match i with
  | .c0 j => 4
  | .c1 j => 3
  | .c2 j => 2
  | .c3 j => 1
def loopRS (a : Gw.Offer) (b : Gw.Offer) : LoopD IRS where
  nt := 80
  fr := fun ex => match ex with | .normal => ⟨[0, 1, 2, 3, 4, 5, 6, 8, 10, 11, 12, 13, 14, 15, 16, 17, 19, 20, 21, 22, 23, 24, 25, 26], 17, []⟩ | .exit _ => ⟨[0, 1, 2, 3, 4, 5, 6, 10, 11, 12, 13, 14, 15, 16, 17, 19, 20, 21, 22, 23, 24, 25, 26], 17, []⟩ | .ret => ⟨[], 17, []⟩
  S := SSRS a b
  out := fun i => .ob (invRS a b i) (.leaf ((.exit 2), XRS a b))
  pick := fun _ => .c0 0
def lpRS : DC := (((loopsIn 0 (dOf 23).body)[1]?).getD (0, .skip)).2
def orcRS (a : Gw.Offer) (b : Gw.Offer) (i : IRS) : Orc := match i with
  | .c0 j => noOrc
  | .c1 j => noOrc
  | .c2 j => noOrc
  | .c3 j => noOrc
def orcsRS (a : Gw.Offer) (b : Gw.Offer) (i : IRS) : Nat → Orc := match i with
  | .c0 j => (fun _ => noOrc)
  | .c1 j => (fun _ => noOrc)
  | .c2 j => (fun _ => noOrc)
  | .c3 j => (fun _ => noOrc)
def stsRS (i : IRS) : Nat → List Nat := match i with
  | .c0 j => (fun k => match k with | 23 => [45] | _ => [])
  | .c1 j => (fun k => match k with | 23 => [45] | _ => [])
  | .c2 j => (fun k => match k with | 23 => [45] | _ => [])
  | .c3 j => (fun k => match k with | 23 => [45] | _ => [])
def stRS (i : IRS) : List Nat := match i with
  | .c0 j => [45]
  | .c1 j => [45]
  | .c2 j => [45]
  | .c3 j => [45]
def treeRS_0 (a : Gw.Offer) (b : Gw.Offer) (j : Nat) : DT (Ex × Snap) :=
  .ob (dAt [.int .i64 a.silent, .int .i64 2]) (
.node ((bitL a.silent 2) == true) (
.ob (dAt [.int .i64 b.silent, .int .i64 2]) (
.node (bitL b.silent 2) (
.ob (dSil [.int .i64 2]) (
.leaf (.normal, SNRS a b (.int .i64 1) (.int .i64 (silL 2))))) (
.leaf (.normal, SNRS a b (.int .i64 1) (.int .i64 (slF a b 0)))))) (
.leaf (.normal, SNRS a b (.int .i64 1) (.int .i64 (slF a b 0)))))
set_option maxRecDepth 1000000 in
theorem treeRS_0_eq (a : Gw.Offer) (b : Gw.Offer) (j : Nat) : codeT (callT (mkXT noPX oxRDL) (mkXP noPX) (mkX noPX oxRDL) D (orcsRS a b (.c0 j)) (stsRS (.c0 j)) 13) (callN (mkX noPX oxRDL) D 13) (mkXP noPX) (orcRS a b (.c0 j)) (stRS (.c0 j)) noLt 2 lpRS ((loopRS a b).t0 (.c0 j)) [] ((loopRS a b).h0 (.c0 j)) (loopRS a b).end_ = treeRS_0 a b j := by kernel_rfl
def treeRS_1 (a : Gw.Offer) (b : Gw.Offer) (j : Nat) : DT (Ex × Snap) :=
  .ob (dAt [.int .i64 a.silent, .int .i64 1]) (
.node ((bitL a.silent 1) == true) (
.ob (dAt [.int .i64 b.silent, .int .i64 1]) (
.node (bitL b.silent 1) (
.ob (dSil [.int .i64 1]) (
.leaf (.normal, SNRS a b (.int .i64 0) (.int .i64 (silL 1))))) (
.leaf (.normal, SNRS a b (.int .i64 0) (.int .i64 (slF a b 1)))))) (
.leaf (.normal, SNRS a b (.int .i64 0) (.int .i64 (slF a b 1)))))
set_option maxRecDepth 1000000 in
theorem treeRS_1_eq (a : Gw.Offer) (b : Gw.Offer) (j : Nat) : codeT (callT (mkXT noPX oxRDL) (mkXP noPX) (mkX noPX oxRDL) D (orcsRS a b (.c1 j)) (stsRS (.c1 j)) 13) (callN (mkX noPX oxRDL) D 13) (mkXP noPX) (orcRS a b (.c1 j)) (stRS (.c1 j)) noLt 2 lpRS ((loopRS a b).t0 (.c1 j)) [] ((loopRS a b).h0 (.c1 j)) (loopRS a b).end_ = treeRS_1 a b j := by kernel_rfl
def treeRS_2 (a : Gw.Offer) (b : Gw.Offer) (j : Nat) : DT (Ex × Snap) :=
  .ob (dAt [.int .i64 a.silent, .int .i64 0]) (
.node ((bitL a.silent 0) == true) (
.ob (dAt [.int .i64 b.silent, .int .i64 0]) (
.node (bitL b.silent 0) (
.ob (dSil [.int .i64 0]) (
.leaf (.normal, SNRS a b (.int .i64 (-1)) (.int .i64 (silL 0))))) (
.leaf (.normal, SNRS a b (.int .i64 (-1)) (.int .i64 (slF a b 2)))))) (
.leaf (.normal, SNRS a b (.int .i64 (-1)) (.int .i64 (slF a b 2)))))
set_option maxRecDepth 1000000 in
theorem treeRS_2_eq (a : Gw.Offer) (b : Gw.Offer) (j : Nat) : codeT (callT (mkXT noPX oxRDL) (mkXP noPX) (mkX noPX oxRDL) D (orcsRS a b (.c2 j)) (stsRS (.c2 j)) 13) (callN (mkX noPX oxRDL) D 13) (mkXP noPX) (orcRS a b (.c2 j)) (stRS (.c2 j)) noLt 2 lpRS ((loopRS a b).t0 (.c2 j)) [] ((loopRS a b).h0 (.c2 j)) (loopRS a b).end_ = treeRS_2 a b j := by kernel_rfl
def treeRS_3 (a : Gw.Offer) (b : Gw.Offer) (j : Nat) : DT (Ex × Snap) :=
  .leaf ((.exit 2), XNRS a b (.int .i64 (slF a b 3)))
set_option maxRecDepth 1000000 in
theorem treeRS_3_eq (a : Gw.Offer) (b : Gw.Offer) (j : Nat) : codeT (callT (mkXT noPX oxRDL) (mkXP noPX) (mkX noPX oxRDL) D (orcsRS a b (.c3 j)) (stsRS (.c3 j)) 13) (callN (mkX noPX oxRDL) D 13) (mkXP noPX) (orcRS a b (.c3 j)) (stRS (.c3 j)) noLt 2 lpRS ((loopRS a b).t0 (.c3 j)) [] ((loopRS a b).h0 (.c3 j)) (loopRS a b).end_ = treeRS_3 a b j := by kernel_rfl
def treeRSL (a : Gw.Offer) (b : Gw.Offer) (i : IRS) : DT (Ex × Snap) := match i with
  | .c0 j => treeRS_0 a b j
  | .c1 j => treeRS_1 a b j
  | .c2 j => treeRS_2 a b j
  | .c3 j => treeRS_3 a b j
theorem roundRS (a : Gw.Offer) (b : Gw.Offer) (ha : MayO a) (hb : MayO b) (i : IRS) (Pr : Ex × Snap → Prop) (h : ((loopRS a b).out i).sat Pr) : (treeRSL a b i).sat ((loopRS a b).next muRS i Pr) := by
  match i with
  | .c0 j =>
    have hi : True := h.1
    have hX := h.2
    exact sat_ob (by have := ha.s; show (0 ≤ a.silent ∧ a.silent < 16) ∧ (0 ≤ (2 : Int) ∧ (2 : Int) < 4); omega) (
sat_node (fun hc1 => sat_ob (by have := hb.s; show (0 ≤ b.silent ∧ b.silent < 16) ∧ (0 ≤ (2 : Int) ∧ (2 : Int) < 4); omega) (
sat_node (fun hc2 => sat_ob (by show (0 : Int) ≤ 2 ∧ (2 : Int) < 3; decide) (
sat_leaf (⟨.c1 0, (by show SNRS a b (.int .i64 1) (.int .i64 (silL 2)) = SNRS a b (.int .i64 1) (.int .i64 (slF a b 1)); rw [show (slF a b 1) = (silL 2) from sl_t (r := 0) hc1 hc2]), (by show 3 < 4; decide), ⟨trivial, hX⟩⟩)))
 (fun hc2 => sat_leaf (⟨.c1 0, (by show SNRS a b (.int .i64 1) (.int .i64 (slF a b 0)) = SNRS a b (.int .i64 1) (.int .i64 (slF a b 1)); rw [show (slF a b 1) = (slF a b 0) from sl_f2 (r := 0) hc1 hc2]), (by show 3 < 4; decide), ⟨trivial, hX⟩⟩))))
 (fun hc1 => sat_leaf (⟨.c1 0, (by show SNRS a b (.int .i64 1) (.int .i64 (slF a b 0)) = SNRS a b (.int .i64 1) (.int .i64 (slF a b 1)); rw [show (slF a b 1) = (slF a b 0) from sl_f1 (r := 0) hc1]), (by show 3 < 4; decide), ⟨trivial, hX⟩⟩)))
  | .c1 j =>
    have hi : True := h.1
    have hX := h.2
    exact sat_ob (by have := ha.s; show (0 ≤ a.silent ∧ a.silent < 16) ∧ (0 ≤ (1 : Int) ∧ (1 : Int) < 4); omega) (
sat_node (fun hc1 => sat_ob (by have := hb.s; show (0 ≤ b.silent ∧ b.silent < 16) ∧ (0 ≤ (1 : Int) ∧ (1 : Int) < 4); omega) (
sat_node (fun hc2 => sat_ob (by show (0 : Int) ≤ 1 ∧ (1 : Int) < 3; decide) (
sat_leaf (⟨.c2 0, (by show SNRS a b (.int .i64 0) (.int .i64 (silL 1)) = SNRS a b (.int .i64 0) (.int .i64 (slF a b 2)); rw [show (slF a b 2) = (silL 1) from sl_t (r := 1) hc1 hc2]), (by show 2 < 3; decide), ⟨trivial, hX⟩⟩)))
 (fun hc2 => sat_leaf (⟨.c2 0, (by show SNRS a b (.int .i64 0) (.int .i64 (slF a b 1)) = SNRS a b (.int .i64 0) (.int .i64 (slF a b 2)); rw [show (slF a b 2) = (slF a b 1) from sl_f2 (r := 1) hc1 hc2]), (by show 2 < 3; decide), ⟨trivial, hX⟩⟩))))
 (fun hc1 => sat_leaf (⟨.c2 0, (by show SNRS a b (.int .i64 0) (.int .i64 (slF a b 1)) = SNRS a b (.int .i64 0) (.int .i64 (slF a b 2)); rw [show (slF a b 2) = (slF a b 1) from sl_f1 (r := 1) hc1]), (by show 2 < 3; decide), ⟨trivial, hX⟩⟩)))
  | .c2 j =>
    have hi : True := h.1
    have hX := h.2
    exact sat_ob (by have := ha.s; show (0 ≤ a.silent ∧ a.silent < 16) ∧ (0 ≤ (0 : Int) ∧ (0 : Int) < 4); omega) (
sat_node (fun hc1 => sat_ob (by have := hb.s; show (0 ≤ b.silent ∧ b.silent < 16) ∧ (0 ≤ (0 : Int) ∧ (0 : Int) < 4); omega) (
sat_node (fun hc2 => sat_ob (by show (0 : Int) ≤ 0 ∧ (0 : Int) < 3; decide) (
sat_leaf (⟨.c3 0, (by show SNRS a b (.int .i64 (-1)) (.int .i64 (silL 0)) = SNRS a b (.int .i64 (-1)) (.int .i64 (slF a b 3)); rw [show (slF a b 3) = (silL 0) from sl_t (r := 2) hc1 hc2]), (by show 1 < 2; decide), ⟨trivial, hX⟩⟩)))
 (fun hc2 => sat_leaf (⟨.c3 0, (by show SNRS a b (.int .i64 (-1)) (.int .i64 (slF a b 2)) = SNRS a b (.int .i64 (-1)) (.int .i64 (slF a b 3)); rw [show (slF a b 3) = (slF a b 2) from sl_f2 (r := 2) hc1 hc2]), (by show 1 < 2; decide), ⟨trivial, hX⟩⟩))))
 (fun hc1 => sat_leaf (⟨.c3 0, (by show SNRS a b (.int .i64 (-1)) (.int .i64 (slF a b 2)) = SNRS a b (.int .i64 (-1)) (.int .i64 (slF a b 3)); rw [show (slF a b 3) = (slF a b 2) from sl_f1 (r := 2) hc1]), (by show 1 < 2; decide), ⟨trivial, hX⟩⟩)))
  | .c3 j =>
    have hi : True := h.1
    have hX := h.2
    exact sat_leaf (hX)
theorem ltRS_ok (a : Gw.Offer) (b : Gw.Offer) (ha : MayO a) (hb : MayO b) (hint : Nat → List Nat) : Lt1 Tryz.prog hint 3 (loopRS a b).lt lpRS :=
  LoopD.lt1c mixed (show TabX Tryz.prog noPX oxRDL from tabRDL) tabD (loopRS a b) muRS (fun ex => match ex with | .normal => ⟨show 3 ≤ 17 by decide, show 3 ≤ 17 by decide⟩ | .exit _ => ⟨show 3 ≤ 17 by decide, show 3 ≤ 17 by decide⟩ | .ret => ⟨show 3 ≤ 17 by decide, show 3 ≤ 17 by decide⟩) (orcs := orcsRS a b) (sts := stsRS) (orc := orcRS a b) (st := stRS) (tree := treeRSL a b)
    (fun i => match i with
    | .c0 j => treeRS_0_eq a b j
    | .c1 j => treeRS_1_eq a b j
    | .c2 j => treeRS_2_eq a b j
    | .c3 j => treeRS_3_eq a b j) (roundRS a b ha hb)
inductive IRN
  | c0 (j : Nat)
  | c1 (j : Nat)
  | c2 (j : Nat)
  | c3 (j : Nat)
  | c4 (j : Nat)
  | c5 (j : Nat)
  | c6 (j : Nat)
  | c7 (j : Nat)
def RWRN (a : Gw.Offer) (b : Gw.Offer) (w0 : V) (w1 : V) : List (Option Blk) := [some .dead, some .dead, some .dead, some (.cells false [.int .i64 a.baud, .int .i64 a.silent, .int .i64 a.win, .int .i64 a.size, .int .i64 a.wait]), some (.cells false [.int .i64 b.baud, .int .i64 b.silent, .int .i64 b.win, .int .i64 b.size, .int .i64 b.wait]), some (.cells false [.int .i64 0, .int .i64 0, .int .i64 0, .int .i64 0, .int .i64 0]), none, none, none, none, none, none, none, none, none, some (.cells false [.int .i64 (bdF a b 4), .int .i64 (slF a b 3), w1, .int .i64 (sizeL (hiL b.size)), .int .i64 (loL b.wait)]), none]
def SNRN (a : Gw.Offer) (b : Gw.Offer) (w0 : V) (w1 : V) : Snap := ([.agg [.int .i64 a.baud, .int .i64 a.silent, .int .i64 a.win, .int .i64 a.size, .int .i64 a.wait], .agg [.int .i64 b.baud, .int .i64 b.silent, .int .i64 b.win, .int .i64 b.size, .int .i64 b.wait], .ptr 3 0, .ptr 4 0, .ptr 5 0, .bool false, .ptr 15 0, w0, .agg [.int .i64 a.baud, .int .i64 a.silent, .int .i64 a.win, .int .i64 a.size, .int .i64 a.wait], .bool true, .bool false, .bool false, .agg [.int .i64 b.baud, .int .i64 b.silent, .int .i64 b.win, .int .i64 b.size, .int .i64 b.wait], .bool true, .bool false, .bool false, .ptr 4 3, .int .i64 b.size, .int .i64 (hiL b.size), .int .i64 (sizeL (hiL b.size)), .ptr 4 4, .int .i64 b.wait, .int .i64 (loL b.wait), .agg [.int .i64 0, .int .i64 0, .int .i64 1, .int .i64 (sizeL (hiL b.size)), .int .i64 (loL b.wait)]], RWRN a b w0 w1)
def SSRN (a : Gw.Offer) (b : Gw.Offer) (i : IRN) : Snap := match i with
  | .c0 j => SNRN a b (.int .i64 1) (.int .i64 (wnF (frameL (sizeL (hiL b.size)) (bdF a b 4)) 0))
  | .c1 j => SNRN a b (.int .i64 2) (.int .i64 (wnF (frameL (sizeL (hiL b.size)) (bdF a b 4)) 1))
  | .c2 j => SNRN a b (.int .i64 3) (.int .i64 (wnF (frameL (sizeL (hiL b.size)) (bdF a b 4)) 2))
  | .c3 j => SNRN a b (.int .i64 4) (.int .i64 (wnF (frameL (sizeL (hiL b.size)) (bdF a b 4)) 3))
  | .c4 j => SNRN a b (.int .i64 5) (.int .i64 (wnF (frameL (sizeL (hiL b.size)) (bdF a b 4)) 4))
  | .c5 j => SNRN a b (.int .i64 6) (.int .i64 (wnF (frameL (sizeL (hiL b.size)) (bdF a b 4)) 5))
  | .c6 j => SNRN a b (.int .i64 7) (.int .i64 (wnF (frameL (sizeL (hiL b.size)) (bdF a b 4)) 6))
  | .c7 j => SNRN a b (.int .i64 8) (.int .i64 (wnF (frameL (sizeL (hiL b.size)) (bdF a b 4)) 7))
def XNRN (a : Gw.Offer) (b : Gw.Offer) (w1 : V) : Snap := ([.agg [.int .i64 a.baud, .int .i64 a.silent, .int .i64 a.win, .int .i64 a.size, .int .i64 a.wait], .agg [.int .i64 b.baud, .int .i64 b.silent, .int .i64 b.win, .int .i64 b.size, .int .i64 b.wait], .ptr 3 0, .ptr 4 0, .ptr 5 0, .bool false, .ptr 15 0, .agg [.int .i64 a.baud, .int .i64 a.silent, .int .i64 a.win, .int .i64 a.size, .int .i64 a.wait], .bool true, .bool false, .bool false, .agg [.int .i64 b.baud, .int .i64 b.silent, .int .i64 b.win, .int .i64 b.size, .int .i64 b.wait], .bool true, .bool false, .bool false, .ptr 4 3, .int .i64 b.size, .int .i64 (hiL b.size), .int .i64 (sizeL (hiL b.size)), .ptr 4 4, .int .i64 b.wait, .int .i64 (loL b.wait), .agg [.int .i64 0, .int .i64 0, .int .i64 1, .int .i64 (sizeL (hiL b.size)), .int .i64 (loL b.wait)]], [some .dead, some .dead, some .dead, some (.cells false [.int .i64 a.baud, .int .i64 a.silent, .int .i64 a.win, .int .i64 a.size, .int .i64 a.wait]), some (.cells false [.int .i64 b.baud, .int .i64 b.silent, .int .i64 b.win, .int .i64 b.size, .int .i64 b.wait]), some (.cells false [.int .i64 0, .int .i64 0, .int .i64 0, .int .i64 0, .int .i64 0]), none, none, none, none, none, none, none, none, none, some (.cells false [.int .i64 (bdF a b 4), .int .i64 (slF a b 3), w1, .int .i64 (sizeL (hiL b.size)), .int .i64 (loL b.wait)]), none])
def XRN (a : Gw.Offer) (b : Gw.Offer) : Snap := XNRN a b (.int .i64 (wnF (frameL (sizeL (hiL b.size)) (bdF a b 4)) (hiL b.win + 1).toNat))
def invRN (a : Gw.Offer) (b : Gw.Offer) (i : IRN) : Prop := match i with
  | .c0 j => (0 : Int) ≤ hiL b.win + 1
  | .c1 j => (1 : Int) ≤ hiL b.win + 1
  | .c2 j => (2 : Int) ≤ hiL b.win + 1
  | .c3 j => (3 : Int) ≤ hiL b.win + 1
  | .c4 j => (4 : Int) ≤ hiL b.win + 1
  | .c5 j => (5 : Int) ≤ hiL b.win + 1
  | .c6 j => (6 : Int) ≤ hiL b.win + 1
  | .c7 j => (7 : Int) ≤ hiL b.win + 1
def muRN (i : IRN) : Nat := match i with
  | .c0 j => 8
  | .c1 j => 7
  | .c2 j => 6
  | .c3 j => 5
  | .c4 j => 4
  | .c5 j => 3
  | .c6 j => 2
  | .c7 j => 1
def loopRN (a : Gw.Offer) (b : Gw.Offer) : LoopD IRN where
  nt := 80
  fr := fun ex => match ex with | .normal => ⟨[0, 1, 2, 3, 4, 5, 6, 9, 10, 11, 12, 13, 14, 15, 16, 17, 19, 20, 21, 22, 23, 24, 25, 26], 17, []⟩ | .exit _ => ⟨[0, 1, 2, 3, 4, 5, 6, 10, 11, 12, 13, 14, 15, 16, 17, 19, 20, 21, 22, 23, 24, 25, 26], 17, []⟩ | .ret => ⟨[], 17, []⟩
  S := SSRN a b
  out := fun i => .ob (invRN a b i) (.leaf ((.exit 4), XRN a b))
  pick := fun _ => .c0 0
def lpRN : DC := (((loopsIn 0 (dOf 23).body)[2]?).getD (0, .skip)).2
def orcRN (a : Gw.Offer) (b : Gw.Offer) (i : IRN) : Orc := match i with
  | .c0 j => (fun k => match k with | 66 => some fun t h => (.bool true, h) | 76 => some fun t h => (.bool true, h) | _ => none)
  | .c1 j => (fun k => match k with | 76 => some fun t h => (.bool true, h) | _ => none)
  | .c2 j => (fun k => match k with | 76 => some fun t h => (.bool true, h) | _ => none)
  | .c3 j => (fun k => match k with | 76 => some fun t h => (.bool true, h) | _ => none)
  | .c4 j => (fun k => match k with | 76 => some fun t h => (.bool true, h) | _ => none)
  | .c5 j => (fun k => match k with | 76 => some fun t h => (.bool true, h) | _ => none)
  | .c6 j => noOrc
  | .c7 j => (fun k => match k with | 66 => some fun t h => (.bool false, h) | _ => none)
def orcsRN (a : Gw.Offer) (b : Gw.Offer) (i : IRN) : Nat → Orc := match i with
  | .c0 j => (fun _ => noOrc)
  | .c1 j => (fun _ => noOrc)
  | .c2 j => (fun _ => noOrc)
  | .c3 j => (fun _ => noOrc)
  | .c4 j => (fun _ => noOrc)
  | .c5 j => (fun _ => noOrc)
  | .c6 j => (fun _ => noOrc)
  | .c7 j => (fun _ => noOrc)
def stsRN (i : IRN) : Nat → List Nat := match i with
  | .c0 j => (fun k => match k with | 23 => [66, 76] | _ => [])
  | .c1 j => (fun k => match k with | 23 => [76] | _ => [])
  | .c2 j => (fun k => match k with | 23 => [76] | _ => [])
  | .c3 j => (fun k => match k with | 23 => [76] | _ => [])
  | .c4 j => (fun k => match k with | 23 => [76] | _ => [])
  | .c5 j => (fun k => match k with | 23 => [76] | _ => [])
  | .c6 j => (fun _ => [])
  | .c7 j => (fun k => match k with | 23 => [66] | _ => [])
def stRN (i : IRN) : List Nat := match i with
  | .c0 j => [66, 76]
  | .c1 j => [76]
  | .c2 j => [76]
  | .c3 j => [76]
  | .c4 j => [76]
  | .c5 j => [76]
  | .c6 j => []
  | .c7 j => [66]
def treeRN_0 (a : Gw.Offer) (b : Gw.Offer) (j : Nat) : DT (Ex × Snap) :=
  .ob (dHigh [.int .i64 b.win]) (
.ob (binV .leq (.int .i64 1) (.int .i64 (wrapK .i64 ((hiL b.win) + 1))) = some (.bool true)) (
.ob (dFrame [.int .i64 (sizeL (hiL b.size)), .int .i64 (bdF a b 4)]) (
.ob (binV .leq (.int .i64 (wrapK .i64 (1 * (frameL (sizeL (hiL b.size)) (bdF a b 4))))) (.int .i64 30) = some (.bool true)) (
.leaf (.normal, SNRN a b (.int .i64 2) (.int .i64 1))))))
set_option maxRecDepth 1000000 in
theorem treeRN_0_eq (a : Gw.Offer) (b : Gw.Offer) (j : Nat) : codeT (callT (mkXT noPX oxRDL) (mkXP noPX) (mkX noPX oxRDL) D (orcsRN a b (.c0 j)) (stsRN (.c0 j)) 13) (callN (mkX noPX oxRDL) D 13) (mkXP noPX) (orcRN a b (.c0 j)) (stRN (.c0 j)) noLt 4 lpRN ((loopRN a b).t0 (.c0 j)) [] ((loopRN a b).h0 (.c0 j)) (loopRN a b).end_ = treeRN_0 a b j := by kernel_rfl
def treeRN_1 (a : Gw.Offer) (b : Gw.Offer) (j : Nat) : DT (Ex × Snap) :=
  .ob (dHigh [.int .i64 b.win]) (
.node (decide ((2 : Int) ≤ (wrapK .i64 ((hiL b.win) + 1)))) (
.ob (dFrame [.int .i64 (sizeL (hiL b.size)), .int .i64 (bdF a b 4)]) (
.ob (binV .leq (.int .i64 (wrapK .i64 (2 * (frameL (sizeL (hiL b.size)) (bdF a b 4))))) (.int .i64 30) = some (.bool true)) (
.leaf (.normal, SNRN a b (.int .i64 3) (.int .i64 2))))) (
.leaf ((.exit 4), XNRN a b (.int .i64 (wnF (frameL (sizeL (hiL b.size)) (bdF a b 4)) 1)))))
set_option maxRecDepth 1000000 in
theorem treeRN_1_eq (a : Gw.Offer) (b : Gw.Offer) (j : Nat) : codeT (callT (mkXT noPX oxRDL) (mkXP noPX) (mkX noPX oxRDL) D (orcsRN a b (.c1 j)) (stsRN (.c1 j)) 13) (callN (mkX noPX oxRDL) D 13) (mkXP noPX) (orcRN a b (.c1 j)) (stRN (.c1 j)) noLt 4 lpRN ((loopRN a b).t0 (.c1 j)) [] ((loopRN a b).h0 (.c1 j)) (loopRN a b).end_ = treeRN_1 a b j := by kernel_rfl
def treeRN_2 (a : Gw.Offer) (b : Gw.Offer) (j : Nat) : DT (Ex × Snap) :=
  .ob (dHigh [.int .i64 b.win]) (
.node (decide ((3 : Int) ≤ (wrapK .i64 ((hiL b.win) + 1)))) (
.ob (dFrame [.int .i64 (sizeL (hiL b.size)), .int .i64 (bdF a b 4)]) (
.ob (binV .leq (.int .i64 (wrapK .i64 (3 * (frameL (sizeL (hiL b.size)) (bdF a b 4))))) (.int .i64 30) = some (.bool true)) (
.leaf (.normal, SNRN a b (.int .i64 4) (.int .i64 3))))) (
.leaf ((.exit 4), XNRN a b (.int .i64 (wnF (frameL (sizeL (hiL b.size)) (bdF a b 4)) 2)))))
set_option maxRecDepth 1000000 in
theorem treeRN_2_eq (a : Gw.Offer) (b : Gw.Offer) (j : Nat) : codeT (callT (mkXT noPX oxRDL) (mkXP noPX) (mkX noPX oxRDL) D (orcsRN a b (.c2 j)) (stsRN (.c2 j)) 13) (callN (mkX noPX oxRDL) D 13) (mkXP noPX) (orcRN a b (.c2 j)) (stRN (.c2 j)) noLt 4 lpRN ((loopRN a b).t0 (.c2 j)) [] ((loopRN a b).h0 (.c2 j)) (loopRN a b).end_ = treeRN_2 a b j := by kernel_rfl
def treeRN_3 (a : Gw.Offer) (b : Gw.Offer) (j : Nat) : DT (Ex × Snap) :=
  .ob (dHigh [.int .i64 b.win]) (
.node (decide ((4 : Int) ≤ (wrapK .i64 ((hiL b.win) + 1)))) (
.ob (dFrame [.int .i64 (sizeL (hiL b.size)), .int .i64 (bdF a b 4)]) (
.ob (binV .leq (.int .i64 (wrapK .i64 (4 * (frameL (sizeL (hiL b.size)) (bdF a b 4))))) (.int .i64 30) = some (.bool true)) (
.leaf (.normal, SNRN a b (.int .i64 5) (.int .i64 4))))) (
.leaf ((.exit 4), XNRN a b (.int .i64 (wnF (frameL (sizeL (hiL b.size)) (bdF a b 4)) 3)))))
set_option maxRecDepth 1000000 in
theorem treeRN_3_eq (a : Gw.Offer) (b : Gw.Offer) (j : Nat) : codeT (callT (mkXT noPX oxRDL) (mkXP noPX) (mkX noPX oxRDL) D (orcsRN a b (.c3 j)) (stsRN (.c3 j)) 13) (callN (mkX noPX oxRDL) D 13) (mkXP noPX) (orcRN a b (.c3 j)) (stRN (.c3 j)) noLt 4 lpRN ((loopRN a b).t0 (.c3 j)) [] ((loopRN a b).h0 (.c3 j)) (loopRN a b).end_ = treeRN_3 a b j := by kernel_rfl
def treeRN_4 (a : Gw.Offer) (b : Gw.Offer) (j : Nat) : DT (Ex × Snap) :=
  .ob (dHigh [.int .i64 b.win]) (
.node (decide ((5 : Int) ≤ (wrapK .i64 ((hiL b.win) + 1)))) (
.ob (dFrame [.int .i64 (sizeL (hiL b.size)), .int .i64 (bdF a b 4)]) (
.ob (binV .leq (.int .i64 (wrapK .i64 (5 * (frameL (sizeL (hiL b.size)) (bdF a b 4))))) (.int .i64 30) = some (.bool true)) (
.leaf (.normal, SNRN a b (.int .i64 6) (.int .i64 5))))) (
.leaf ((.exit 4), XNRN a b (.int .i64 (wnF (frameL (sizeL (hiL b.size)) (bdF a b 4)) 4)))))
set_option maxRecDepth 1000000 in
theorem treeRN_4_eq (a : Gw.Offer) (b : Gw.Offer) (j : Nat) : codeT (callT (mkXT noPX oxRDL) (mkXP noPX) (mkX noPX oxRDL) D (orcsRN a b (.c4 j)) (stsRN (.c4 j)) 13) (callN (mkX noPX oxRDL) D 13) (mkXP noPX) (orcRN a b (.c4 j)) (stRN (.c4 j)) noLt 4 lpRN ((loopRN a b).t0 (.c4 j)) [] ((loopRN a b).h0 (.c4 j)) (loopRN a b).end_ = treeRN_4 a b j := by kernel_rfl
def treeRN_5 (a : Gw.Offer) (b : Gw.Offer) (j : Nat) : DT (Ex × Snap) :=
  .ob (dHigh [.int .i64 b.win]) (
.node (decide ((6 : Int) ≤ (wrapK .i64 ((hiL b.win) + 1)))) (
.ob (dFrame [.int .i64 (sizeL (hiL b.size)), .int .i64 (bdF a b 4)]) (
.ob (binV .leq (.int .i64 (wrapK .i64 (6 * (frameL (sizeL (hiL b.size)) (bdF a b 4))))) (.int .i64 30) = some (.bool true)) (
.leaf (.normal, SNRN a b (.int .i64 7) (.int .i64 6))))) (
.leaf ((.exit 4), XNRN a b (.int .i64 (wnF (frameL (sizeL (hiL b.size)) (bdF a b 4)) 5)))))
set_option maxRecDepth 1000000 in
theorem treeRN_5_eq (a : Gw.Offer) (b : Gw.Offer) (j : Nat) : codeT (callT (mkXT noPX oxRDL) (mkXP noPX) (mkX noPX oxRDL) D (orcsRN a b (.c5 j)) (stsRN (.c5 j)) 13) (callN (mkX noPX oxRDL) D 13) (mkXP noPX) (orcRN a b (.c5 j)) (stRN (.c5 j)) noLt 4 lpRN ((loopRN a b).t0 (.c5 j)) [] ((loopRN a b).h0 (.c5 j)) (loopRN a b).end_ = treeRN_5 a b j := by kernel_rfl
def treeRN_6 (a : Gw.Offer) (b : Gw.Offer) (j : Nat) : DT (Ex × Snap) :=
  .ob (dHigh [.int .i64 b.win]) (
.node (decide ((7 : Int) ≤ (wrapK .i64 ((hiL b.win) + 1)))) (
.ob (dFrame [.int .i64 (sizeL (hiL b.size)), .int .i64 (bdF a b 4)]) (
.node (decide (((wrapK .i64 (7 * (frameL (sizeL (hiL b.size)) (bdF a b 4)))) : Int) ≤ 30)) (
.leaf (.normal, SNRN a b (.int .i64 8) (.int .i64 7))) (
.leaf (.normal, SNRN a b (.int .i64 8) (.int .i64 (wnF (frameL (sizeL (hiL b.size)) (bdF a b 4)) 6)))))) (
.leaf ((.exit 4), XNRN a b (.int .i64 (wnF (frameL (sizeL (hiL b.size)) (bdF a b 4)) 6)))))
set_option maxRecDepth 1000000 in
theorem treeRN_6_eq (a : Gw.Offer) (b : Gw.Offer) (j : Nat) : codeT (callT (mkXT noPX oxRDL) (mkXP noPX) (mkX noPX oxRDL) D (orcsRN a b (.c6 j)) (stsRN (.c6 j)) 13) (callN (mkX noPX oxRDL) D 13) (mkXP noPX) (orcRN a b (.c6 j)) (stRN (.c6 j)) noLt 4 lpRN ((loopRN a b).t0 (.c6 j)) [] ((loopRN a b).h0 (.c6 j)) (loopRN a b).end_ = treeRN_6 a b j := by kernel_rfl
def treeRN_7 (a : Gw.Offer) (b : Gw.Offer) (j : Nat) : DT (Ex × Snap) :=
  .ob (dHigh [.int .i64 b.win]) (
.ob (binV .leq (.int .i64 8) (.int .i64 (wrapK .i64 ((hiL b.win) + 1))) = some (.bool false)) (
.leaf ((.exit 4), XNRN a b (.int .i64 (wnF (frameL (sizeL (hiL b.size)) (bdF a b 4)) 7)))))
set_option maxRecDepth 1000000 in
theorem treeRN_7_eq (a : Gw.Offer) (b : Gw.Offer) (j : Nat) : codeT (callT (mkXT noPX oxRDL) (mkXP noPX) (mkX noPX oxRDL) D (orcsRN a b (.c7 j)) (stsRN (.c7 j)) 13) (callN (mkX noPX oxRDL) D 13) (mkXP noPX) (orcRN a b (.c7 j)) (stRN (.c7 j)) noLt 4 lpRN ((loopRN a b).t0 (.c7 j)) [] ((loopRN a b).h0 (.c7 j)) (loopRN a b).end_ = treeRN_7 a b j := by kernel_rfl
def treeRNL (a : Gw.Offer) (b : Gw.Offer) (i : IRN) : DT (Ex × Snap) := match i with
  | .c0 j => treeRN_0 a b j
  | .c1 j => treeRN_1 a b j
  | .c2 j => treeRN_2 a b j
  | .c3 j => treeRN_3 a b j
  | .c4 j => treeRN_4 a b j
  | .c5 j => treeRN_5 a b j
  | .c6 j => treeRN_6 a b j
  | .c7 j => treeRN_7 a b j
theorem roundRN (a : Gw.Offer) (b : Gw.Offer) (ha : MayO a) (hb : MayO b) (i : IRN) (Pr : Ex × Snap → Prop) (h : ((loopRN a b).out i).sat Pr) : (treeRNL a b i).sat ((loopRN a b).next muRN i Pr) := by
  match i with
  | .c0 j =>
    have hi : (0 : Int) ≤ hiL b.win + 1 := h.1
    have hX := h.2
    exact sat_ob (by have := hb.w; show 0 ≤ b.win ∧ b.win < 128; omega) (
sat_ob (by have := hi6 hb.w; rw [wrap_small (by omega)]; simp [binV, binI]; omega) (
sat_ob (show _ ∧ _ from ⟨size_fin (hi3 hb.z), by rw [bd_fin ha hb]; exact baud_fin (hcb ha hb)⟩) (
sat_ob (by have := hFr ha hb; rw [wrap_small (show 0 ≤ 1 * (frameL (sizeL (hiL b.size)) (bdF a b 4)) ∧ 1 * (frameL (sizeL (hiL b.size)) (bdF a b 4)) < 9223372036854775808 by have := hFr ha hb; omega)]; simp [binV, binI]; omega) (
sat_leaf (⟨.c1 0, (by show SNRN a b (.int .i64 2) (.int .i64 1) = SNRN a b (.int .i64 2) (.int .i64 (wnF (frameL (sizeL (hiL b.size)) (bdF a b 4)) 1)); rw [show (wnF (frameL (sizeL (hiL b.size)) (bdF a b 4)) 1) = 1 from wn_t (by show (1 : Int) * (frameL (sizeL (hiL b.size)) (bdF a b 4)) ≤ 30; have := hFr ha hb; omega)]), (by show 7 < 8; decide), ⟨(by have := hi6 hb.w; show (1 : Int) ≤ hiL b.win + 1; omega), hX⟩⟩)))))
  | .c1 j =>
    have hi : (1 : Int) ≤ hiL b.win + 1 := h.1
    have hX := h.2
    exact sat_ob (by have := hb.w; show 0 ≤ b.win ∧ b.win < 128; omega) (
sat_node (fun hc1 => sat_ob (show _ ∧ _ from ⟨size_fin (hi3 hb.z), by rw [bd_fin ha hb]; exact baud_fin (hcb ha hb)⟩) (
sat_ob (by have := hFr ha hb; rw [wrap_small (show 0 ≤ 2 * (frameL (sizeL (hiL b.size)) (bdF a b 4)) ∧ 2 * (frameL (sizeL (hiL b.size)) (bdF a b 4)) < 9223372036854775808 by have := hFr ha hb; omega)]; simp [binV, binI]; omega) (
sat_leaf (⟨.c2 0, (by show SNRN a b (.int .i64 3) (.int .i64 2) = SNRN a b (.int .i64 3) (.int .i64 (wnF (frameL (sizeL (hiL b.size)) (bdF a b 4)) 2)); rw [show (wnF (frameL (sizeL (hiL b.size)) (bdF a b 4)) 2) = 2 from wn_t (by show (2 : Int) * (frameL (sizeL (hiL b.size)) (bdF a b 4)) ≤ 30; have := hFr ha hb; omega)]), (by show 6 < 7; decide), ⟨(by have := hi6 hb.w; have h := of_decide_eq_true hc1; rw [wrap_small (by omega)] at h; show (2 : Int) ≤ hiL b.win + 1; omega), hX⟩⟩))))
 (fun hc1 => sat_leaf ((by have := hi6 hb.w; have h := of_decide_eq_false hc1; rw [wrap_small (by omega)] at h; have hi' : (1 : Int) ≤ hiL b.win + 1 := hi; have e : (hiL b.win + 1).toNat = 1 := (by omega); have hX' : Pr (.exit 4, XNRN a b (.int .i64 (wnF (frameL (sizeL (hiL b.size)) (bdF a b 4)) (hiL b.win + 1).toNat))) := hX; rw [e] at hX'; exact hX'))))
  | .c2 j =>
    have hi : (2 : Int) ≤ hiL b.win + 1 := h.1
    have hX := h.2
    exact sat_ob (by have := hb.w; show 0 ≤ b.win ∧ b.win < 128; omega) (
sat_node (fun hc1 => sat_ob (show _ ∧ _ from ⟨size_fin (hi3 hb.z), by rw [bd_fin ha hb]; exact baud_fin (hcb ha hb)⟩) (
sat_ob (by have := hFr ha hb; rw [wrap_small (show 0 ≤ 3 * (frameL (sizeL (hiL b.size)) (bdF a b 4)) ∧ 3 * (frameL (sizeL (hiL b.size)) (bdF a b 4)) < 9223372036854775808 by have := hFr ha hb; omega)]; simp [binV, binI]; omega) (
sat_leaf (⟨.c3 0, (by show SNRN a b (.int .i64 4) (.int .i64 3) = SNRN a b (.int .i64 4) (.int .i64 (wnF (frameL (sizeL (hiL b.size)) (bdF a b 4)) 3)); rw [show (wnF (frameL (sizeL (hiL b.size)) (bdF a b 4)) 3) = 3 from wn_t (by show (3 : Int) * (frameL (sizeL (hiL b.size)) (bdF a b 4)) ≤ 30; have := hFr ha hb; omega)]), (by show 5 < 6; decide), ⟨(by have := hi6 hb.w; have h := of_decide_eq_true hc1; rw [wrap_small (by omega)] at h; show (3 : Int) ≤ hiL b.win + 1; omega), hX⟩⟩))))
 (fun hc1 => sat_leaf ((by have := hi6 hb.w; have h := of_decide_eq_false hc1; rw [wrap_small (by omega)] at h; have hi' : (2 : Int) ≤ hiL b.win + 1 := hi; have e : (hiL b.win + 1).toNat = 2 := (by omega); have hX' : Pr (.exit 4, XNRN a b (.int .i64 (wnF (frameL (sizeL (hiL b.size)) (bdF a b 4)) (hiL b.win + 1).toNat))) := hX; rw [e] at hX'; exact hX'))))
  | .c3 j =>
    have hi : (3 : Int) ≤ hiL b.win + 1 := h.1
    have hX := h.2
    exact sat_ob (by have := hb.w; show 0 ≤ b.win ∧ b.win < 128; omega) (
sat_node (fun hc1 => sat_ob (show _ ∧ _ from ⟨size_fin (hi3 hb.z), by rw [bd_fin ha hb]; exact baud_fin (hcb ha hb)⟩) (
sat_ob (by have := hFr ha hb; rw [wrap_small (show 0 ≤ 4 * (frameL (sizeL (hiL b.size)) (bdF a b 4)) ∧ 4 * (frameL (sizeL (hiL b.size)) (bdF a b 4)) < 9223372036854775808 by have := hFr ha hb; omega)]; simp [binV, binI]; omega) (
sat_leaf (⟨.c4 0, (by show SNRN a b (.int .i64 5) (.int .i64 4) = SNRN a b (.int .i64 5) (.int .i64 (wnF (frameL (sizeL (hiL b.size)) (bdF a b 4)) 4)); rw [show (wnF (frameL (sizeL (hiL b.size)) (bdF a b 4)) 4) = 4 from wn_t (by show (4 : Int) * (frameL (sizeL (hiL b.size)) (bdF a b 4)) ≤ 30; have := hFr ha hb; omega)]), (by show 4 < 5; decide), ⟨(by have := hi6 hb.w; have h := of_decide_eq_true hc1; rw [wrap_small (by omega)] at h; show (4 : Int) ≤ hiL b.win + 1; omega), hX⟩⟩))))
 (fun hc1 => sat_leaf ((by have := hi6 hb.w; have h := of_decide_eq_false hc1; rw [wrap_small (by omega)] at h; have hi' : (3 : Int) ≤ hiL b.win + 1 := hi; have e : (hiL b.win + 1).toNat = 3 := (by omega); have hX' : Pr (.exit 4, XNRN a b (.int .i64 (wnF (frameL (sizeL (hiL b.size)) (bdF a b 4)) (hiL b.win + 1).toNat))) := hX; rw [e] at hX'; exact hX'))))
  | .c4 j =>
    have hi : (4 : Int) ≤ hiL b.win + 1 := h.1
    have hX := h.2
    exact sat_ob (by have := hb.w; show 0 ≤ b.win ∧ b.win < 128; omega) (
sat_node (fun hc1 => sat_ob (show _ ∧ _ from ⟨size_fin (hi3 hb.z), by rw [bd_fin ha hb]; exact baud_fin (hcb ha hb)⟩) (
sat_ob (by have := hFr ha hb; rw [wrap_small (show 0 ≤ 5 * (frameL (sizeL (hiL b.size)) (bdF a b 4)) ∧ 5 * (frameL (sizeL (hiL b.size)) (bdF a b 4)) < 9223372036854775808 by have := hFr ha hb; omega)]; simp [binV, binI]; omega) (
sat_leaf (⟨.c5 0, (by show SNRN a b (.int .i64 6) (.int .i64 5) = SNRN a b (.int .i64 6) (.int .i64 (wnF (frameL (sizeL (hiL b.size)) (bdF a b 4)) 5)); rw [show (wnF (frameL (sizeL (hiL b.size)) (bdF a b 4)) 5) = 5 from wn_t (by show (5 : Int) * (frameL (sizeL (hiL b.size)) (bdF a b 4)) ≤ 30; have := hFr ha hb; omega)]), (by show 3 < 4; decide), ⟨(by have := hi6 hb.w; have h := of_decide_eq_true hc1; rw [wrap_small (by omega)] at h; show (5 : Int) ≤ hiL b.win + 1; omega), hX⟩⟩))))
 (fun hc1 => sat_leaf ((by have := hi6 hb.w; have h := of_decide_eq_false hc1; rw [wrap_small (by omega)] at h; have hi' : (4 : Int) ≤ hiL b.win + 1 := hi; have e : (hiL b.win + 1).toNat = 4 := (by omega); have hX' : Pr (.exit 4, XNRN a b (.int .i64 (wnF (frameL (sizeL (hiL b.size)) (bdF a b 4)) (hiL b.win + 1).toNat))) := hX; rw [e] at hX'; exact hX'))))
  | .c5 j =>
    have hi : (5 : Int) ≤ hiL b.win + 1 := h.1
    have hX := h.2
    exact sat_ob (by have := hb.w; show 0 ≤ b.win ∧ b.win < 128; omega) (
sat_node (fun hc1 => sat_ob (show _ ∧ _ from ⟨size_fin (hi3 hb.z), by rw [bd_fin ha hb]; exact baud_fin (hcb ha hb)⟩) (
sat_ob (by have := hFr ha hb; rw [wrap_small (show 0 ≤ 6 * (frameL (sizeL (hiL b.size)) (bdF a b 4)) ∧ 6 * (frameL (sizeL (hiL b.size)) (bdF a b 4)) < 9223372036854775808 by have := hFr ha hb; omega)]; simp [binV, binI]; omega) (
sat_leaf (⟨.c6 0, (by show SNRN a b (.int .i64 7) (.int .i64 6) = SNRN a b (.int .i64 7) (.int .i64 (wnF (frameL (sizeL (hiL b.size)) (bdF a b 4)) 6)); rw [show (wnF (frameL (sizeL (hiL b.size)) (bdF a b 4)) 6) = 6 from wn_t (by show (6 : Int) * (frameL (sizeL (hiL b.size)) (bdF a b 4)) ≤ 30; have := hFr ha hb; omega)]), (by show 2 < 3; decide), ⟨(by have := hi6 hb.w; have h := of_decide_eq_true hc1; rw [wrap_small (by omega)] at h; show (6 : Int) ≤ hiL b.win + 1; omega), hX⟩⟩))))
 (fun hc1 => sat_leaf ((by have := hi6 hb.w; have h := of_decide_eq_false hc1; rw [wrap_small (by omega)] at h; have hi' : (5 : Int) ≤ hiL b.win + 1 := hi; have e : (hiL b.win + 1).toNat = 5 := (by omega); have hX' : Pr (.exit 4, XNRN a b (.int .i64 (wnF (frameL (sizeL (hiL b.size)) (bdF a b 4)) (hiL b.win + 1).toNat))) := hX; rw [e] at hX'; exact hX'))))
  | .c6 j =>
    have hi : (6 : Int) ≤ hiL b.win + 1 := h.1
    have hX := h.2
    exact sat_ob (by have := hb.w; show 0 ≤ b.win ∧ b.win < 128; omega) (
sat_node (fun hc1 => sat_ob (show _ ∧ _ from ⟨size_fin (hi3 hb.z), by rw [bd_fin ha hb]; exact baud_fin (hcb ha hb)⟩) (
sat_node (fun hc2 => sat_leaf (⟨.c7 0, (by show SNRN a b (.int .i64 8) (.int .i64 7) = SNRN a b (.int .i64 8) (.int .i64 (wnF (frameL (sizeL (hiL b.size)) (bdF a b 4)) 7)); rw [show (wnF (frameL (sizeL (hiL b.size)) (bdF a b 4)) 7) = 7 from wn_t (by have := hFr ha hb; have h := of_decide_eq_true hc2; rw [wrap_small (show 0 ≤ 7 * (frameL (sizeL (hiL b.size)) (bdF a b 4)) ∧ 7 * (frameL (sizeL (hiL b.size)) (bdF a b 4)) < 9223372036854775808 by have := hFr ha hb; omega)] at h; show (7 : Int) * (frameL (sizeL (hiL b.size)) (bdF a b 4)) ≤ 30; exact h)]), (by show 1 < 2; decide), ⟨(by have := hi6 hb.w; have h := of_decide_eq_true hc1; rw [wrap_small (by omega)] at h; show (7 : Int) ≤ hiL b.win + 1; omega), hX⟩⟩))
 (fun hc2 => sat_leaf (⟨.c7 0, (by show SNRN a b (.int .i64 8) (.int .i64 (wnF (frameL (sizeL (hiL b.size)) (bdF a b 4)) 6)) = SNRN a b (.int .i64 8) (.int .i64 (wnF (frameL (sizeL (hiL b.size)) (bdF a b 4)) 7)); rw [show (wnF (frameL (sizeL (hiL b.size)) (bdF a b 4)) 7) = (wnF (frameL (sizeL (hiL b.size)) (bdF a b 4)) 6) from wn_f (by have := hFr ha hb; have h := of_decide_eq_false hc2; rw [wrap_small (show 0 ≤ 7 * (frameL (sizeL (hiL b.size)) (bdF a b 4)) ∧ 7 * (frameL (sizeL (hiL b.size)) (bdF a b 4)) < 9223372036854775808 by have := hFr ha hb; omega)] at h; show ¬ ((7 : Int) * (frameL (sizeL (hiL b.size)) (bdF a b 4)) ≤ 30); exact h)]), (by show 1 < 2; decide), ⟨(by have := hi6 hb.w; have h := of_decide_eq_true hc1; rw [wrap_small (by omega)] at h; show (7 : Int) ≤ hiL b.win + 1; omega), hX⟩⟩))))
 (fun hc1 => sat_leaf ((by have := hi6 hb.w; have h := of_decide_eq_false hc1; rw [wrap_small (by omega)] at h; have hi' : (6 : Int) ≤ hiL b.win + 1 := hi; have e : (hiL b.win + 1).toNat = 6 := (by omega); have hX' : Pr (.exit 4, XNRN a b (.int .i64 (wnF (frameL (sizeL (hiL b.size)) (bdF a b 4)) (hiL b.win + 1).toNat))) := hX; rw [e] at hX'; exact hX'))))
  | .c7 j =>
    have hi : (7 : Int) ≤ hiL b.win + 1 := h.1
    have hX := h.2
    exact sat_ob (by have := hb.w; show 0 ≤ b.win ∧ b.win < 128; omega) (
sat_ob (by have := hi6 hb.w; rw [wrap_small (by omega)]; simp [binV, binI]; omega) (
sat_leaf ((by have := hi6 hb.w; have hi' : (7 : Int) ≤ hiL b.win + 1 := hi; have e : (hiL b.win + 1).toNat = 7 := (by omega); have hX' : Pr (.exit 4, XNRN a b (.int .i64 (wnF (frameL (sizeL (hiL b.size)) (bdF a b 4)) (hiL b.win + 1).toNat))) := hX; rw [e] at hX'; exact hX'))))
theorem ltRN_ok (a : Gw.Offer) (b : Gw.Offer) (ha : MayO a) (hb : MayO b) (hint : Nat → List Nat) : Lt1 Tryz.prog hint 3 (loopRN a b).lt lpRN :=
  LoopD.lt1c mixed (show TabX Tryz.prog noPX oxRDL from tabRDL) tabD (loopRN a b) muRN (fun ex => match ex with | .normal => ⟨show 3 ≤ 17 by decide, show 3 ≤ 17 by decide⟩ | .exit _ => ⟨show 3 ≤ 17 by decide, show 3 ≤ 17 by decide⟩ | .ret => ⟨show 3 ≤ 17 by decide, show 3 ≤ 17 by decide⟩) (orcs := orcsRN a b) (sts := stsRN) (orc := orcRN a b) (st := stRN) (tree := treeRNL a b)
    (fun i => match i with
    | .c0 j => treeRN_0_eq a b j
    | .c1 j => treeRN_1_eq a b j
    | .c2 j => treeRN_2_eq a b j
    | .c3 j => treeRN_3_eq a b j
    | .c4 j => treeRN_4_eq a b j
    | .c5 j => treeRN_5_eq a b j
    | .c6 j => treeRN_6_eq a b j
    | .c7 j => treeRN_7_eq a b j) (roundRN a b ha hb)
def ltRD (a : Gw.Offer) (b : Gw.Offer) : Lt := fun k => match k with | 0 => (loopRB a b).lt | 2 => (loopRS a b).lt | 4 => (loopRN a b).lt | _ => fun _ _ => .fail
def oxRDeal : OTab := (consT 55 (gD dAt pAt noV) (consT 58 (gD dFrame pFrame noV) (consT 57 (gD dSil pSil noV) (consT 56 (gD dBaud pBaud noV) (consT 52 (gD dBaud pSize noV) (consT 54 (gD dLow pLow noV) (consT 53 (gD dHigh pHigh noV) (consT 51 (gD dOff pMayQ (fun n => match n with | 7 => some (.bool true) | _ => none)) noOX))))))))
def treeRDeal (a : Gw.Offer) (b : Gw.Offer) : DT V :=
  .ob (dOff [.agg [.int .i64 a.baud, .int .i64 a.silent, .int .i64 a.win, .int .i64 a.size, .int .i64 a.wait]]) (
.ob (pMayQ [.agg [.int .i64 a.baud, .int .i64 a.silent, .int .i64 a.win, .int .i64 a.size, .int .i64 a.wait]] = (.bool true)) (
.ob (dOff [.agg [.int .i64 b.baud, .int .i64 b.silent, .int .i64 b.win, .int .i64 b.size, .int .i64 b.wait]]) (
.ob (pMayQ [.agg [.int .i64 b.baud, .int .i64 b.silent, .int .i64 b.win, .int .i64 b.size, .int .i64 b.wait]] = (.bool true)) (
.ob (dHigh [.int .i64 b.size]) (
.ob (((V.beq (.int .i64 b.wait) (.int .i64 b.wait)) && true) = true) (
.ob (dBaud [.int .i64 (hiL b.size)]) (
.ob (((V.beq (.int .i64 b.wait) (.int .i64 b.wait)) && true) = true) (
.ob (dLow [.int .i64 b.wait]) (
.ob ((SNRB a b (.int .i64 0) (.int .i64 0) : Snap) = (loopRB a b).S (.c0 0)) (
.ob (invRB a b (.c0 0)) (
.ob ((SNRS a b (.int .i64 2) (.int .i64 0) : Snap) = (loopRS a b).S (.c0 0)) (
.ob (invRS a b (.c0 0)) (
.ob ((SNRN a b (.int .i64 1) (.int .i64 1) : Snap) = (loopRN a b).S (.c0 0)) (
.ob (invRN a b (.c0 0)) (
.leaf (.tup [.agg [.int .i64 (bdF a b 4), .int .i64 (slF a b 3), .int .i64 (wnF (frameL (sizeL (hiL b.size)) (bdF a b 4)) (hiL b.win + 1).toNat), .int .i64 (sizeL (hiL b.size)), .int .i64 (loL b.wait)], .bool true]))))))))))))))))
set_option maxRecDepth 1000000 in
theorem treeRDeal_eq (a : Gw.Offer) (b : Gw.Offer) : funT (mkXT (noPX) (oxRDeal)) (mkXP (noPX)) (mkX (noPX) (oxRDeal)) D (fun _ => noOrc) (fun k => match k with | 23 => [11, 15] | _ => []) 12 noOrc [11, 15] (ltRD a b) (dOf 23) [.agg a.vs, .agg b.vs] (smallH []) (fun v _ => v) = treeRDeal a b := by kernel_rfl
theorem satRDeal (a : Gw.Offer) (b : Gw.Offer) (ha : MayO a) (hb : MayO b) : (treeRDeal a b).sat fun v => v = .tup [.agg (dealL a b).vs, .bool true] :=
 sat_ob trivial (
sat_ob (may_of ha) (
sat_ob trivial (
sat_ob (may_of hb) (
sat_ob (by have := hb.z; show 0 ≤ b.size ∧ b.size < 128; omega) (
sat_ob (by simp only [V.beq_refl, Bool.and_true]) (
sat_ob (by have := hi3 hb.z; show 0 ≤ hiL b.size ∧ hiL b.size < 4; omega) (
sat_ob (by simp only [V.beq_refl, Bool.and_true]) (
sat_ob (by have := hb.t; show 0 ≤ b.wait ∧ b.wait < 8; omega) (
sat_ob (by kernel_rfl) (
sat_ob trivial (
sat_ob (by kernel_rfl) (
sat_ob trivial (
sat_ob (by kernel_rfl) (
sat_ob (show (0 : Int) ≤ hiL b.win + 1 by have := hi6 hb.w; omega) (
sat_leaf (by rw [bd_fin ha hb, sl_fin ha hb, wn_fin (hi6 hb.w) (frm_fin (size_fin (hi3 hb.z)) (baud_fin (hcb ha hb)))]; rfl))))))))))))))))
theorem loopsRD : loopsIn 0 (dOf 23).body = [(0, lpRB), (2, lpRS), (4, lpRN)] := by kernel_rfl
set_option maxRecDepth 1000000 in
theorem runRDeal (a : Gw.Offer) (b : Gw.Offer) (ha : MayO a) (hb : MayO b) : Run Tryz.prog 23 [.agg a.vs, .agg b.vs] (smallH []) fun v _ => v = .tup [.agg (dealL a b).vs, .bool true] := by
  refine run_loops mixed (show TabX Tryz.prog noPX oxRDeal from ((((((((TabX.nil.addT (ans_rmay (fun n => match n with | 7 => some (.bool true) | _ => none))).addT (ans_rhigh noV)).addT (ans_rlow noV)).addT (ans_rsize noV)).addT (ans_rbaud noV)).addT (ans_rsil noV)).addT (ans_rframe noV)).addT (ans_rat noV))) tabD (dIs (by kernel_rfl)) (lt := ltRD a b) (fun hint p hp => ?_) (treeRDeal_eq a b) (satRDeal a b ha hb)
  rw [loopsRD] at hp
  simp only [List.mem_cons, List.not_mem_nil, or_false] at hp
  rcases hp with rfl | rfl | rfl
  · exact ltRB_ok a b ha hb hint
  · exact ltRS_ok a b ha hb hint
  · exact ltRN_ok a b ha hb hint
theorem ans_rdeal (orc : Nat → Option V) : AnsO Tryz.prog 23 (fun args h => (gD dDeal pDeal orc args h).run) := ansD orc fun args hd => by
  unfold dDeal at hd
  split at hd
  · rename_i a1 a2 a3 a4 a5 b1 b2 b3 b4 b5
    exact ⟨rfl, rfl, runRDeal ⟨a1, a2, a3, a4, a5⟩ ⟨b1, b2, b3, b4, b5⟩ hd.1 hd.2⟩
  · exact hd.elim
end Go.Proofs.YtjcninlcdnkofaaGreatDoor
