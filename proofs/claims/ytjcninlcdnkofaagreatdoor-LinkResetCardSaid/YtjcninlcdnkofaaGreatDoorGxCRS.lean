/- What is proved: glowwormlaw20.LinkReset returns true, whatever it is given, and turns nothing that was there, in every world that holds the three laid tables; conditions: none beyond those of its card. -/
import Derived.Test.YtjcninlcdnkofaaGreatDoorGxRT0
import Derived.Test.YtjcninlcdnkofaaGreatDoorGxRT1
import Derived.Test.YtjcninlcdnkofaaGreatDoorGxRT2
import Derived.Test.YtjcninlcdnkofaaGreatDoorGxX3
noncomputable section
namespace Go.Proofs.YtjcninlcdnkofaaGreatDoor.linkReset
open Go Gw Go.RowKit Go.ChangeShapes Go.WideShapes Go.ChangeAt
set_option maxRecDepth 1000000
theorem runLRc (a b : Gw.Offer) (bv : V) (R : List V) (ss : List Str) (qv : V) (count : Int) (hbv : mskV (fnO 15 [none]) bv = bv) (hR : mskVs (fnO 15 [none]) R = R) (hl : ∀ u v v1 hint, Lt1 Tryz.prog hint 4 (loopRK a b bv R ss qv count u v v1).lt lpRK) : Run Tryz.prog 8 [.agg a.vs, .agg b.vs, bv, .int .i64 count] ((tabH kT0 kT1 kT2 4).put 3 (some (.cells true R))) fun v _ => v = .bool true := by
  rcases tm250 count with he | ⟨c, hn, hc, hc2⟩
  · rcases wait3 a with w | w | w <;> rcases wait3 b with x | x | x
    · exact runLR0_0e a b bv R ss qv count w x hbv hR he (hl 0 0 1)
    · exact runLR0_1e a b bv R ss qv count w x hbv hR he (hl 1 0 1)
    · exact runLR0_2e a b bv R ss qv count w x hbv hR he (hl 2 0 1)
    · exact runLR1_0e a b bv R ss qv count w x hbv hR he (hl 0 1 2)
    · exact runLR1_1e a b bv R ss qv count w x hbv hR he (hl 1 1 2)
    · exact runLR1_2e a b bv R ss qv count w x hbv hR he (hl 2 1 2)
    · exact runLR2_0e a b bv R ss qv count w x hbv hR he (hl 0 2 3)
    · exact runLR2_1e a b bv R ss qv count w x hbv hR he (hl 1 2 3)
    · exact runLR2_2e a b bv R ss qv count w x hbv hR he (hl 2 2 3)
  · rcases wait3 a with w | w | w <;> rcases wait3 b with x | x | x
    · exact runLR0_0n a b bv R ss qv count c w x hbv hR hn hc hc2 (hl 0 0 1)
    · exact runLR0_1n a b bv R ss qv count c w x hbv hR hn hc hc2 (hl 1 0 1)
    · exact runLR0_2n a b bv R ss qv count c w x hbv hR hn hc hc2 (hl 2 0 1)
    · exact runLR1_0n a b bv R ss qv count c w x hbv hR hn hc hc2 (hl 0 1 2)
    · exact runLR1_1n a b bv R ss qv count c w x hbv hR hn hc hc2 (hl 1 1 2)
    · exact runLR1_2n a b bv R ss qv count c w x hbv hR hn hc hc2 (hl 2 1 2)
    · exact runLR2_0n a b bv R ss qv count c w x hbv hR hn hc hc2 (hl 0 2 3)
    · exact runLR2_1n a b bv R ss qv count c w x hbv hR hn hc hc2 (hl 1 2 3)
    · exact runLR2_2n a b bv R ss qv count c w x hbv hR hn hc hc2 (hl 2 2 3)
theorem runLRl (a b : Gw.Offer) (l : List Str) (count : Int) : Run Tryz.prog 8 [.agg a.vs, .agg b.vs, .slice 3 0 l.length 1 none, .int .i64 count] ((tabH kT0 kT1 kT2 4).put 3 (some (.cells true (l.map V.str)))) fun v _ => v = .bool true := by
  match l with
  | [] => exact runLRc a b (.slice 3 0 0 1 none) [] [] (.nils) count rfl rfl (fun u v v1 hint => ltRK0_ok a b  count u v v1 hint)
  | [s0] => exact runLRc a b (.slice 3 0 1 1 none) [.str s0] [s0] (.tup [.tup []]) count rfl rfl (fun u v v1 hint => ltRK1_ok a b s0 count u v v1 hint)
  | [s0, s1] => exact runLRc a b (.slice 3 0 2 1 none) [.str s0, .str s1] [s0, s1] (.tup [.tup []]) count rfl rfl (fun u v v1 hint => ltRK2_ok a b s0 s1 count u v v1 hint)
  | [s0, s1, s2] => exact runLRc a b (.slice 3 0 3 1 none) [.str s0, .str s1, .str s2] [s0, s1, s2] (.tup [.tup []]) count rfl rfl (fun u v v1 hint => ltRK3_ok a b s0 s1 s2 count u v v1 hint)
  | [s0, s1, s2, s3] => exact runLRc a b (.slice 3 0 4 1 none) [.str s0, .str s1, .str s2, .str s3] [s0, s1, s2, s3] (.tup [.tup []]) count rfl rfl (fun u v v1 hint => ltRK4_ok a b s0 s1 s2 s3 count u v v1 hint)
  | [s0, s1, s2, s3, s4] => exact runLRc a b (.slice 3 0 5 1 none) [.str s0, .str s1, .str s2, .str s3, .str s4] [s0, s1, s2, s3, s4] (.tup [.tup []]) count rfl rfl (fun u v v1 hint => ltRK5_ok a b s0 s1 s2 s3 s4 count u v v1 hint)
  | s0 :: s1 :: s2 :: s3 :: s4 :: s5 :: rest => exact runLRc a b (.slice 3 0 (rest.length + 6) 1 none) (.str s0 :: .str s1 :: .str s2 :: .str s3 :: .str s4 :: .str s5 :: rest.map V.str) [s0, s1, s2, s3, s4] (.tup [.tup []]) count rfl (mskVs_of (flats_str (s0 :: s1 :: s2 :: s3 :: s4 :: s5 :: rest))) (fun u v v1 hint => ltRK6_ok a b (.str s0 :: .str s1 :: .str s2 :: .str s3 :: .str s4 :: .str s5 :: rest.map V.str) (rest.length + 6) s0 s1 s2 s3 s4 count u v v1 (by omega) (fun q => mskVs_of (flats_str (s0 :: s1 :: s2 :: s3 :: s4 :: s5 :: rest))) rfl rfl rfl rfl rfl hint)
theorem walkN {W : World} (T : Tabs W kT0 kT1 kT2) (a b : Gw.Offer) (count : Int) : Calls Tryz.prog 8 #[.agg (gOffer a).toArray, .agg (gOffer b).toArray, .slice none 0 0, .int .i64 count] W fun e W' => e = .returned (.bool true) ∧ Below W.heap.size W W' := by
  obtain ⟨ρ, hG, _, hH0, hR⟩ := HR.tabs T (fun k => k < W.heap.size) (fun _ h => h) 4 (by omega)
  obtain ⟨L0, hL0, c0, e0, f0, g1, g2, g3, _⟩ := hH0.blk 0 (.cells true (zsV .u8 kT0)) (by kernel_rfl)
  obtain ⟨ρ', hle, hH, _⟩ := HR.arg1 hH0 hR (i := 3) (by show 3 < 4; omega) (by kernel_rfl) V.str (g := fun s : Str => Value.string ⟨⟨s⟩⟩) (fun ρ x => by simp only [VR]) (L := L0) (l := []) (a := ⟨L0.b, L0.o, none⟩) (k := 0) (by simp) rfl (.inl rfl) g1 g2 (by simp only [List.length_nil]; omega) (fun i x hi => by simp at hi)
  have hr := (runLRc a b .nils [] [] .nils count rfl rfl (fun u v v1 hint => ltRK7_ok a b count u v v1 hint)).2 (fun k => k < W.heap.size) ρ' [.agg (gOffer a).toArray, .agg (gOffer b).toArray, .slice none 0 0, .int .i64 count] W (hG.mono hle) (VRs.cons (Offer_VR ρ' a) (VRs.cons (Offer_VR ρ' b) (VRs.cons (by simp only [VR]) (VRs.cons (by simp only [VR]) (by simp [VRs]))))) hH
  refine hr.mono fun e w' ⟨x, r, h', ρ2, h1, h2, _, h4, _, h6⟩ => ⟨?_, h6.below⟩
  subst h1 h2
  simp only [VR] at h4
  rw [h4]
theorem walkS {W : World} (T : Tabs W kT0 kT1 kT2) (oa ob : Gw.Offer) (count : Int) {L : Gw.Loc} {l : List Str} {a : Addr} {k : Nat} {c : Array Value} {e' : TypeId} {fz : Nat × Nat} (h2 : l.length ≤ k) (h3 : a.block = L.b) (h4 : k = 0 ∨ (a = ⟨L.b, L.o, none⟩ ∧ L.o + k ≤ L.z))
    (h5 : W.heap[L.b]? = some (.cells c e' fz)) (h6 : c.size = L.z) (h7 : L.o + l.length ≤ L.z) (h8 : ∀ i x, l[i]? = some x → c[L.o + i]? = some ((fun s : Str => Value.string ⟨⟨s⟩⟩) x)) :
    Calls Tryz.prog 8 #[.agg (gOffer oa).toArray, .agg (gOffer ob).toArray, .slice (some a) l.length k, .int .i64 count] W fun e W' => e = .returned (.bool true) ∧ Below W.heap.size W W' := by
  obtain ⟨ρ, hG, hN, hH, hR⟩ := HR.tabs T (fun k => k < W.heap.size) (fun _ h => h) 4 (by omega)
  obtain ⟨ρ', hle, hH', hv⟩ := HR.arg1 hH hR (i := 3) (by show 3 < 4; omega) (by kernel_rfl) V.str (g := fun s : Str => Value.string ⟨⟨s⟩⟩) (fun ρ x => by simp only [VR]) h2 h3 h4 h5 h6 h7 h8
  have hr := (runLRl oa ob l count).2 (fun k => k < W.heap.size) ρ' [.agg (gOffer oa).toArray, .agg (gOffer ob).toArray, .slice (some a) l.length k, .int .i64 count] W (hG.mono hle) (VRs.cons (Offer_VR ρ' oa) (VRs.cons (Offer_VR ρ' ob) (VRs.cons hv (VRs.cons (by simp only [VR]) (by simp [VRs]))))) hH'
  refine hr.mono fun e w' ⟨x, r, h', ρ2, h1, h2, _, h4, _, h6⟩ => ⟨?_, h6.below⟩
  subst h1 h2
  simp only [VR] at h4
  rw [h4]

theorem params : Tryz.f8.params = #[23, 23, 59, 3] := by kernel_rfl
theorem contract (H : Type) (enc : TypeId × Value → H) (W : World) (base : Nat) (args : Array Value) (ds gs : List (DataW H)) (before : List MemPlace)
    (hval : ∀ (j : Nat) t v, Tryz.f8.params[j]? = some t → args[j]? = some v → Value.okWide Tryz.prog W .any base t v)
    (hW : DataW.Whole enc Tryz.prog Tryz.f8.params.toList Rows.linkResetSpec.vars false W args.toList ds gs before) (hL : laidMetH Tryz.prog Rows.linkResetRow.laid W) :
    Calls Tryz.prog 8 args W fun e W' => ∃ v, e = .returned v ∧ Rows.linkResetSpec.post enc Tryz.prog Tryz.f8 false true false false W args v W' := by
  have hW' := hW
  obtain ⟨p, q, hA, _⟩ := hW
  rw [params] at hA hval
  obtain ⟨v0, vs0, d0, ds0, p0, q0, e0, _, _, h0, r0⟩ := trodAll_cons hA
  obtain ⟨v1, vs1, d1, ds1, p1, q1, e1, _, _, h1, r1⟩ := trodAll_cons r0
  obtain ⟨v2, vs2, d2, ds2, p2, q2, e2, _, _, h2, r2⟩ := trodAll_cons r1
  obtain ⟨v3, vs3, d3, ds3, p3, q3, e3, _, _, h3, r3⟩ := trodAll_cons r2
  obtain ⟨z, _, _⟩ := trodAll_nil r3
  obtain rfl : args = #[v0, v1, v2, v3] := by cases args; simp_all
  have go : Calls Tryz.prog 8 #[v0, v1, v2, v3] W fun e W' => e = .returned (.bool true) ∧ Below W.heap.size W W' := by
    obtain ⟨oa, rfl⟩ := Offer_arg (hval 0 23 v0 rfl rfl) h0
    obtain ⟨ob, rfl⟩ := Offer_arg (hval 1 23 v1 rfl rfl) h1
    obtain ⟨count, rfl, _⟩ := int_arg (show Tryz.prog.underlying 3 = some (.int .i64) by kernel_rfl) (hval 3 3 v3 rfl rfl) h3
    rcases open_row1 (A := Str) (fun s : Str => Value.string ⟨⟨s⟩⟩) (show Tryz.prog.underlying 59 = some (.slice 9) by kernel_rfl) (by kernel_rfl) (fun n V x hx => by
      obtain ⟨s, hs, _⟩ := DataW.trod_string (show Tryz.prog.underlying 9 = some .string by kernel_rfl) hx
      exact ⟨s.data.toList, by simpa using hs⟩) (hval 2 59 v2 rfl rfl) h2 with rfl | ⟨L, l, a, k, c, e', fz, rfl, h2, h3, h4, h5, h6, h7, h8⟩
    · exact walkN (tabs hL) oa ob count
    · exact walkS (tabs hL) oa ob count h2 h3 h4 h5 h6 h7 h8
  refine go.mono fun e W' ⟨he, hB⟩ => ⟨_, he, ?_⟩
  refine post_true laidOut (by kernel_rfl) rfl (tb := 4) rfl u4 (fun ds hd => ?_) hW' hB
  rw [params] at hd
  match ds, hd with
  | [a0, a1, a2, a3], _ => exact ⟨rfl, rfl, rfl⟩

noncomputable def wArgs : Array Value := #[.agg #[.int .i64 0, .int .i64 0, .int .i64 0, .int .i64 0, .int .i64 0], .agg #[.int .i64 0, .int .i64 0, .int .i64 0, .int .i64 0, .int .i64 0], .slice none 0 0, .int .i64 0]
theorem reads (os : Os) {H : Type} (enc : TypeId × Value → H) : ∃ places, DataW.whole enc Tryz.prog ((laidWorld os).forCall (fun _ _ => 0) ⟨#[], wArgs, []⟩).memory Tryz.f8.params.toList Rows.linkResetSpec.vars false wArgs.toList 8 = some ([.agg [.lit (.int .i64 0), .lit (.int .i64 0), .lit (.int .i64 0), .lit (.int .i64 0), .lit (.int .i64 0)], .agg [.lit (.int .i64 0), .lit (.int .i64 0), .lit (.int .i64 0), .lit (.int .i64 0), .lit (.int .i64 0)], .nil, .lit (.int .i64 0)], [], places) :=
  ⟨[], by kernel_rfl⟩

theorem lifted (os : Os) (started : os.Started) (H : Type) (enc : TypeId × Value → H) (F : Stop.Interp) :
    ReturnsInHanded {} Tryz.checked os 8 .any ((OpenSpec.ofChange Rows.linkResetSpec).preRow enc Tryz.prog Tryz.f8 Rows.linkResetRow.domain false Rows.linkResetRow.laid) (((OpenSpec.ofChange Rows.linkResetSpec).at F).post enc Tryz.prog Tryz.f8 false true false false) := by
  obtain ⟨places, hx⟩ := reads os enc
  refine returnsInHanded_of_row (C := Tryz.checked) (s := OpenSpec.ofChange Rows.linkResetSpec) own started (by kernel_rfl) Tryz.func8
    (witness_row_at (enc := enc) (C := Tryz.checked) false (laidWorld os) wArgs rfl (by kernel_rfl) (by kernel_rfl) (by kernel_rfl)
      (OpenSpec.preRow_of_cond 8 hx (by kernel_rfl) (fun k hk => by cases hk) (by kernel_rfl) (laid_met os _))) ?_
  intro W base args ds gs before hval hW _ _ _ hL _ _
  exact contract H enc W base args ds gs before hval hW hL

theorem facts9 : (Rows.linkResetRow.inPlace == Tryz.pinned.checked.prog.inPlace 8) = true := by kernel_rfl
theorem facts10 : (Rows.linkResetRow.unfollowed == Tryz.pinned.checked.prog.unfollowed 8) = true := by kernel_rfl
theorem facts11 : (Rows.linkResetRow.recurses == Tryz.pinned.checked.prog.recurses 8) = true := by kernel_rfl
theorem facts12 : (Rows.linkResetRow.named == Tryz.pinned.checked.prog.varsNamed 8) = true := by kernel_rfl
theorem facts : joinedFacts Tryz.pinned.checked.prog 8 Tryz.f8 (OpenSpec.ofChange Rows.linkResetSpec).bare Rows.linkResetRow = true := by
  unfold joinedFacts
  simp only [Bool.and_eq_true]
  exact ⟨⟨⟨⟨⟨⟨⟨⟨⟨⟨⟨⟨⟨⟨⟨⟨⟨⟨⟨⟨⟨⟨⟨⟨⟨⟨⟨⟨⟨⟨⟨by kernel_rfl, by kernel_rfl⟩, by kernel_rfl⟩, by kernel_rfl⟩, by kernel_rfl⟩, by kernel_rfl⟩, by kernel_rfl⟩, by kernel_rfl⟩, by kernel_rfl⟩, facts9⟩, facts10⟩, facts11⟩, facts12⟩, by kernel_rfl⟩, by kernel_rfl⟩, by kernel_rfl⟩, by kernel_rfl⟩, by kernel_rfl⟩, by kernel_rfl⟩, by kernel_rfl⟩, by kernel_rfl⟩, by kernel_rfl⟩, by kernel_rfl⟩, by kernel_rfl⟩, by kernel_rfl⟩, by kernel_rfl⟩, by kernel_rfl⟩, by kernel_rfl⟩, by kernel_rfl⟩, by kernel_rfl⟩, by kernel_rfl⟩, by kernel_rfl⟩
theorem goes : false = Rows.linkResetRow.goesBy Tryz.pinned.checked.prog := by kernel_rfl
theorem wfT : Rows.linkResetRow.wfByText (OpenSpec.ofChange Rows.linkResetSpec) = true := by kernel_rfl

theorem said : Rows.LinkResetSaid :=
  OpenClaim.holds_of_cond 8 Tryz.f8 rfl rfl rfl rfl rfl rfl rfl ⟨rfl, rfl, rfl, rfl, rfl⟩ rfl rfl rfl rfl rfl (by kernel_rfl) Tryz.func8 facts
    (of_decide_eq_true (by kernel_rfl)) (by unfold Func.isWrapper; first | (rw [if_pos (by decide +kernel)]; kernel_rfl) | (rw [if_neg (by decide +kernel)]; exact ⟨rfl, rfl⟩))
    (fun os started H enc _ F => by rw [OpenClaim.pre_eq_preRow]; exact lifted os started H enc F)

theorem plain (f : FuncId) (fn : Func) (hf : Tryz.pinned.checked.prog.funcNamed "glowworm/glowwormlaw20.LinkReset" = some f) (hfn : Tryz.pinned.checked.prog.funcs[f]? = some fn) :
    true = Tryz.pinned.checked.prog.looks [] ∧ ∀ (j : Nat) t, fn.params[j]? = some t → Tryz.pinned.checked.prog.wantsStandIn t = false := by
  obtain rfl : f = 8 := Option.some.inj ((show Tryz.prog.funcNamed "glowworm/glowwormlaw20.LinkReset" = some 8 by kernel_rfl).symm.trans hf) |>.symm
  obtain rfl : fn = Tryz.f8 := (Option.some.inj (Tryz.func8.symm.trans hfn)).symm
  refine ⟨by kernel_rfl, fun j t ht => ?_⟩
  have hall : Tryz.f8.params.toList.all (fun t => Tryz.prog.wantsStandIn t == false) = true := by kernel_rfl
  have hm : t ∈ Tryz.f8.params.toList := by
    have := Array.mem_of_getElem? ht
    simpa using this
  have := List.all_eq_true.1 hall t hm
  have h2 : Tryz.prog.wantsStandIn t = false := by simpa using this
  exact h2

theorem card : Rows.LinkResetCardSaid :=
  Claim7.holds_tied_plain_at .later [] _ _ _ _ said (fun _ h => by cases h) wfT (fun _ h => by cases h) linkReset_row_tie rfl ⟨rfl, rfl⟩ (by kernel_rfl) rfl plain goes
end Go.Proofs.YtjcninlcdnkofaaGreatDoor.linkReset
