/- BoxAll: its function's tree. -/
import Derived.Test.YtjnhaaolbcmdbaaGreatDoorGxK8
namespace Go.Proofs.YtjnhaaolbcmdbaaGreatDoor
open Go Gw Go.RowKit
set_option linter.unusedSimpArgs false
set_option linter.unusedVariables false
noncomputable def hBAS (xs : List Gw.Ask) (tk : List Bool) : Heap := ((tabH kT0 kT1 kT2 5).put 3 (some (.cells true (xs.flatMap Gw.Ask.vs)))).put 4 (some (.cells true (tk.map V.bool)))
noncomputable def ltBAS (xs : List Gw.Ask) (tk : List Bool) : Lt := fun _ => (loop5 xs (some tk)).lt
def treeBAFS (xs : List Gw.Ask) (tk : List Bool) : DT V :=
  .ob ((([.slice 3 0 xs.length 4 none, .slice 4 0 tk.length 1 none, .ptr 5 0, .nils, .int .i64 0], [some (.cells true (zsV .u8 kT0)), some (.cells true (zsV .u8 kT1)), some (.cells true (zsV .u8 kT2)), some (.cells true (mskVs (fnO 6 [none]) (xs.flatMap Gw.Ask.vs))), some (.cells true (mskVs (fnO 6 [none]) (tk.map V.bool))), some (.obj (.box ⟨none⟩)), none]) : Snap) = (loop5 xs (some tk)).S (0, none)) (
  .ob (inv5 xs (0, none)) (
  .leaf (.bool true)))
set_option maxRecDepth 1000000 in
theorem treeBAFS_eq (xs : List Gw.Ask) (tk : List Bool) : funT (mkXT px2 ox2) (mkXP px2) (mkX px2 ox2) D (fun _ => noOrc) (fun k => match k with | 5 => [16] | _ => []) 5 noOrc [16] (ltBAS xs tk) (dOf 5) [.slice 3 0 xs.length 4 none, .slice 4 0 tk.length 1 none] (hBAS xs tk) (fun v _ => v) = treeBAFS xs tk := by kernel_rfl
theorem satBAS (xs : List Gw.Ask) (tk : List Bool) : (treeBAFS xs tk).sat fun r => r = .bool true := by
  unfold treeBAFS
  simp only [msk_asks, msk_bools, DT.sat]
  exact ⟨by rfl, ⟨Nat.zero_le _, Nat.zero_le _⟩, trivial⟩
noncomputable def hBAN (xs : List Gw.Ask) : Heap := ((tabH kT0 kT1 kT2 5).put 3 (some (.cells true (xs.flatMap Gw.Ask.vs))))
noncomputable def ltBAN (xs : List Gw.Ask) : Lt := fun _ => (loop5 xs none).lt
def treeBAFN (xs : List Gw.Ask) : DT V :=
  .ob ((([.slice 3 0 xs.length 4 none, .nils, .ptr 5 0, .nils, .int .i64 0], [some (.cells true (zsV .u8 kT0)), some (.cells true (zsV .u8 kT1)), some (.cells true (zsV .u8 kT2)), some (.cells true (mskVs (fnO 6 [none]) (xs.flatMap Gw.Ask.vs))), none, some (.obj (.box ⟨none⟩)), none]) : Snap) = (loop5 xs none).S (0, none)) (
  .ob (inv5 xs (0, none)) (
  .leaf (.bool true)))
set_option maxRecDepth 1000000 in
theorem treeBAFN_eq (xs : List Gw.Ask) : funT (mkXT px2 ox2) (mkXP px2) (mkX px2 ox2) D (fun _ => noOrc) (fun k => match k with | 5 => [16] | _ => []) 5 noOrc [16] (ltBAN xs) (dOf 5) [.slice 3 0 xs.length 4 none, .nils] (hBAN xs) (fun v _ => v) = treeBAFN xs := by kernel_rfl
theorem satBAN (xs : List Gw.Ask) : (treeBAFN xs).sat fun r => r = .bool true := by
  unfold treeBAFN
  simp only [msk_asks, msk_bools, DT.sat]
  exact ⟨by rfl, ⟨Nat.zero_le _, Nat.zero_le _⟩, trivial⟩
end Go.Proofs.YtjnhaaolbcmdbaaGreatDoor
