/- What is proved: glowwormlaw16.BoxOrder returns true, whatever it is given, and turns nothing that was there, in every world that holds the three laid tables; conditions: none beyond those of its card. -/
import Derived.Test.YtjnhaaolbcmdbaaGreatDoorGxK5
import Derived.Test.YtjnhaaolbcmdbaaGreatDoorGxB5
namespace Go.Proofs.YtjnhaaolbcmdbaaGreatDoor.boxOrder
open Go Gw Go.RowKit Go.ChangeShapes Go.WideShapes Go.ChangeAt
set_option maxRecDepth 1000000
theorem ranNil : isTrue (callN (mkX px2 ox2) D 10000 11 [.nils] h0) = true := by kernel_rfl
theorem walkNil {W : World} (T : Tabs W kT0 kT1 kT2) : Calls Tryz.prog 11 #[.slice none 0 0] W fun e W' => e = .returned (.bool true) ∧ Below W.heap.size W W' := by
  obtain ⟨ρ, hG, _, hH, _⟩ := HR.tabs T (fun k => k < W.heap.size) (fun _ h => h) 3 (Nat.le_refl _)
  obtain ⟨h', hc⟩ := isTrue_some ranNil
  refine (walk_of tab2.ext hc (xs := #[.slice none 0 0]) hG (VRs.cons (by simp only [VR]) (by simp [VRs])) hH).mono fun e w' ⟨⟨x, ρ', h1, h2⟩, h3⟩ => ⟨?_, h3⟩
  subst h1
  simp only [VR] at h2
  rw [h2]

theorem loopsBO : loopsIn 0 (dOf 11).body = [(0, lpOf 11 0), (2, lpOf 11 1)] := by kernel_rfl
theorem run (bodies : List Str) : Run Tryz.prog 11 [.slice 3 0 bodies.length 1 none] (hBO bodies) fun r _ => r = .bool true := by
  refine run_loops mixed tab2 tabD (dIs (by kernel_rfl)) (lt := ltBO bodies) (fun hint p hp => ?_) (treeBO_eq bodies) (Q := fun r => r = .bool true) (satBO bodies)
  rw [loopsBO] at hp
  simp only [List.mem_cons, List.not_mem_nil, or_false] at hp
  rcases hp with rfl | rfl
  · exact LoopD.lt1 mixed tab2 tabD (loop0 bodies) (fun i => 13 - i) (fun _ => ⟨show 3 ≤ 5 by decide, show 4 ≤ 5 by decide⟩) (by kernel_rfl) (treeLoop0_eq bodies) (round0 bodies)
  · exact LoopD.lt1 mixed tab2 tabD (loop2 bodies) (fun i => 13 - i) (fun _ => ⟨show 3 ≤ 5 by decide, show 4 ≤ 5 by decide⟩) (by kernel_rfl) (treeLoop2_eq bodies) (round2 bodies)

theorem walk {W : World} (T : Tabs W kT0 kT1 kT2) {L : Gw.Loc} {l : List ByteArray} {a : Addr} {k : Nat} {c : Array Value} {e' : TypeId} {fz : Nat × Nat} (h2 : l.length ≤ k) (h3 : a.block = L.b) (h4 : k = 0 ∨ (a = ⟨L.b, L.o, none⟩ ∧ L.o + k ≤ L.z))
    (h5 : W.heap[L.b]? = some (.cells c e' fz)) (h6 : c.size = L.z) (h7 : L.o + l.length ≤ L.z) (h8 : ∀ i x, l[i]? = some x → c[L.o + i]? = some (Value.string x)) :
    Calls Tryz.prog 11 #[.slice (some a) l.length k] W fun e W' => e = .returned (.bool true) ∧ Below W.heap.size W W' := by
  obtain ⟨ρ, hG, hN, hH, hR⟩ := HR.tabs T (fun k => k < W.heap.size) (fun _ h => h) 4 (by omega)
  obtain ⟨ρ', hle, hH', hv⟩ := HR.arg1 hH hR (i := 3) (by show 3 < 4; omega) (by kernel_rfl) (fun s : ByteArray => V.str s.data.toList) (g := Value.string) (fun ρ x => by simp only [VR]) h2 h3 h4 h5 h6 h7 h8
  have e1 : l.map (fun s : ByteArray => V.str s.data.toList) = (l.map fun s => s.data.toList).map V.str := by rw [List.map_map]; rfl
  rw [e1] at hH'
  have hr := (run (l.map fun s : ByteArray => s.data.toList)).2 (fun k => k < W.heap.size) ρ' [.slice (some a) l.length k] W (hG.mono hle) (VRs.cons (by rw [List.length_map]; exact hv) (by simp [VRs])) hH'
  refine hr.mono fun e w' ⟨x, r, h', ρ2, h1, h2, _, h4, _, h6⟩ => ⟨?_, h6.below⟩
  subst h1 h2
  simp only [VR] at h4
  rw [h4]

theorem params : Tryz.f11.params = #[74] := by kernel_rfl
theorem contract (H : Type) (enc : TypeId × Value → H) (W : World) (base : Nat) (args : Array Value) (ds gs : List (DataW H)) (before : List MemPlace)
    (hval : ∀ (j : Nat) t v, Tryz.f11.params[j]? = some t → args[j]? = some v → Value.okWide Tryz.prog W .any base t v)
    (hW : DataW.Whole enc Tryz.prog Tryz.f11.params.toList Rows.boxOrderSpec.vars false W args.toList ds gs before) (hL : laidMetH Tryz.prog Rows.boxOrderRow.laid W) :
    Calls Tryz.prog 11 args W fun e W' => ∃ v, e = .returned v ∧ Rows.boxOrderSpec.post enc Tryz.prog Tryz.f11 false true false false W args v W' := by
  have hW' := hW
  obtain ⟨p, q, hA, _⟩ := hW
  rw [params] at hA hval
  obtain ⟨v0, vs0, d0, ds0, p0, q0, e0, _, _, h0, r0⟩ := trodAll_cons hA
  obtain ⟨z, _, _⟩ := trodAll_nil r0
  obtain rfl : args = #[v0] := by cases args; simp_all
  have go : Calls Tryz.prog 11 #[v0] W fun e W' => e = .returned (.bool true) ∧ Below W.heap.size W W' := by
    rcases open_row1 (A := ByteArray) Value.string (show Tryz.prog.underlying 74 = some (.slice 9) by kernel_rfl) (by kernel_rfl) (fun n V x hx => by
      obtain ⟨s, hs, _⟩ := DataW.trod_string (show Tryz.prog.underlying 9 = some .string by kernel_rfl) hx
      exact ⟨s, by simpa using hs⟩) (hval 0 74 v0 rfl rfl) h0 with rfl | ⟨L, l, a, k, c, e', fz, rfl, h2, h3, h4, h5, h6, h7, h8⟩
    · exact walkNil (tabs hL)
    · exact walk (tabs hL) h2 h3 h4 h5 h6 h7 h8
  refine go.mono fun e W' ⟨he, hB⟩ => ⟨_, he, ?_⟩
  refine post_true laidOut (by kernel_rfl) rfl (tb := 4) rfl u4 (fun ds hd => ?_) hW' hB
  rw [params] at hd
  match ds, hd with
  | [a0], _ => exact ⟨rfl, rfl, rfl⟩

noncomputable def wArgs : Array Value := #[.slice none 0 0]
theorem reads (os : Os) {H : Type} (enc : TypeId × Value → H) : ∃ places, DataW.whole enc Tryz.prog ((laidWorld os).forCall (fun _ _ => 0) ⟨#[], wArgs, []⟩).memory Tryz.f11.params.toList Rows.boxOrderSpec.vars false wArgs.toList 8 = some ([.nil], [], places) :=
  ⟨[], by kernel_rfl⟩

theorem lifted (os : Os) (started : os.Started) (H : Type) (enc : TypeId × Value → H) (F : Stop.Interp) :
    ReturnsInHanded {} Tryz.checked os 11 .any ((OpenSpec.ofChange Rows.boxOrderSpec).preRow enc Tryz.prog Tryz.f11 Rows.boxOrderRow.domain false Rows.boxOrderRow.laid) (((OpenSpec.ofChange Rows.boxOrderSpec).at F).post enc Tryz.prog Tryz.f11 false true false false) := by
  obtain ⟨places, hx⟩ := reads os enc
  refine returnsInHanded_of_row (C := Tryz.checked) (s := OpenSpec.ofChange Rows.boxOrderSpec) own started (by kernel_rfl) Tryz.func11
    (witness_row_at (enc := enc) (C := Tryz.checked) false (laidWorld os) wArgs rfl (by kernel_rfl) (by kernel_rfl) (by kernel_rfl)
      (OpenSpec.preRow_of_cond 8 hx (by kernel_rfl) (fun k hk => by cases hk) (by kernel_rfl) (laid_met os _))) ?_
  intro W base args ds gs before hval hW _ _ _ hL _ _
  exact contract H enc W base args ds gs before hval hW hL

theorem said : Rows.BoxOrderSaid :=
  OpenClaim.holds_of_cond 11 Tryz.f11 rfl rfl rfl rfl rfl rfl rfl ⟨rfl, rfl, rfl, rfl, rfl⟩ rfl rfl rfl rfl rfl (by kernel_rfl) Tryz.func11 (by kernel_rfl)
    (of_decide_eq_true (by kernel_rfl)) (by unfold Func.isWrapper; first | (rw [if_pos (by decide +kernel)]; kernel_rfl) | (rw [if_neg (by decide +kernel)]; exact ⟨rfl, rfl⟩))
    (fun os started H enc _ F => by rw [OpenClaim.pre_eq_preRow]; exact lifted os started H enc F)

theorem plain (f : FuncId) (fn : Func) (hf : Tryz.pinned.checked.prog.funcNamed "glowworm/glowwormlaw16.BoxOrder" = some f) (hfn : Tryz.pinned.checked.prog.funcs[f]? = some fn) :
    true = Tryz.pinned.checked.prog.looks [] ∧ ∀ (j : Nat) t, fn.params[j]? = some t → Tryz.pinned.checked.prog.wantsStandIn t = false := by
  obtain rfl : f = 11 := Option.some.inj ((show Tryz.prog.funcNamed "glowworm/glowwormlaw16.BoxOrder" = some 11 by kernel_rfl).symm.trans hf) |>.symm
  obtain rfl : fn = Tryz.f11 := (Option.some.inj (Tryz.func11.symm.trans hfn)).symm
  refine ⟨by kernel_rfl, fun j t ht => ?_⟩
  have hall : Tryz.f11.params.toList.all (fun t => Tryz.prog.wantsStandIn t == false) = true := by kernel_rfl
  have hm : t ∈ Tryz.f11.params.toList := by
    have := Array.mem_of_getElem? ht
    simpa using this
  have := List.all_eq_true.1 hall t hm
  have h2 : Tryz.prog.wantsStandIn t = false := by simpa using this
  exact h2

theorem card : Rows.BoxOrderCardSaid :=
  Claim7.holds_tied_plain_at .later [] _ _ _ _ said (fun _ h => by cases h) (by kernel_rfl) (fun _ h => by cases h) boxOrder_row_tie rfl ⟨rfl, rfl⟩ (by kernel_rfl) rfl plain (by kernel_rfl)
end Go.Proofs.YtjnhaaolbcmdbaaGreatDoor.boxOrder
