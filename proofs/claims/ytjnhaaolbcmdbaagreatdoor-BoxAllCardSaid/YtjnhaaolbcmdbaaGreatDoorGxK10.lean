/- What is proved: glowwormlaw16.BoxAll returns true, whatever it is given, and turns nothing that was there, in every world that holds the three laid tables; conditions: none beyond those of its card. -/
import Derived.Test.YtjnhaaolbcmdbaaGreatDoorGxK9
import Derived.Test.YtjnhaaolbcmdbaaGreatDoorGxB6
import Derived.Lib.SmallJoins
namespace Go.Proofs.YtjnhaaolbcmdbaaGreatDoor
open Go Gw Go.RowKit Go.ChangeShapes Go.WideShapes Go.ChangeAt
set_option maxRecDepth 1000000
noncomputable def fld (t : TypeId) (i : Nat) : Field := match Tryz.prog.underlying t with
  | some (.struct a) => a.toList.getD i default
  | _ => default
def gAsk (a : Gw.Ask) : List Value := [.int .i64 a.kind, .int .i64 a.n, .int .u32 a.id, .string ⟨⟨a.body⟩⟩]
instance : Inhabited Gw.Ask := ⟨{}⟩
theorem list4 {α : Type} {cs : List α} (h : cs.length = 4) : ∃ c0 c1 c2 c3, cs = [c0, c1, c2, c3] := by
  match cs, h with
  | [c0, c1, c2, c3], _ => exact ⟨c0, c1, c2, c3, rfl⟩
theorem ask_open {H : Type} {enc : TypeId × Value → H} {W : World} {base n : Nat} {held : Bool} {sp : Nat → Bool} {cs : List Value} {x : DataW H × List MemPlace} (h : DataW.trod enc Tryz.prog W base sp held n 51 cs = some x) : ∃ a, cs = gAsk a := by
  obtain ⟨y0, y1, y2, y3, m, _, hl, h0, h1, h2, h3⟩ := Go.Joins.trod_struct4 (show Tryz.prog.underlying 51 = some (.struct #[fld 51 0, fld 51 1, fld 51 2, fld 51 3]) by kernel_rfl) h
  rw [show Tryz.prog.cellsOf 51 = 4 by kernel_rfl] at hl
  obtain ⟨c0, c1, c2, c3, rfl⟩ := list4 hl
  rw [show (fld 51 0).offset = 0 by kernel_rfl, show Tryz.prog.cellsOf (fld 51 0).type = 1 by kernel_rfl, show (fld 51 0).type = 3 by kernel_rfl] at h0
  rw [show (fld 51 1).offset = 1 by kernel_rfl, show Tryz.prog.cellsOf (fld 51 1).type = 1 by kernel_rfl, show (fld 51 1).type = 3 by kernel_rfl] at h1
  rw [show (fld 51 2).offset = 2 by kernel_rfl, show Tryz.prog.cellsOf (fld 51 2).type = 1 by kernel_rfl, show (fld 51 2).type = 22 by kernel_rfl] at h2
  rw [show (fld 51 3).offset = 3 by kernel_rfl, show Tryz.prog.cellsOf (fld 51 3).type = 1 by kernel_rfl, show (fld 51 3).type = 9 by kernel_rfl] at h3
  obtain ⟨n0, e0, _⟩ := DataW.trod_int (show Tryz.prog.underlying 3 = some (.int .i64) by kernel_rfl) h0
  obtain ⟨n1, e1, _⟩ := DataW.trod_int (show Tryz.prog.underlying 3 = some (.int .i64) by kernel_rfl) h1
  obtain ⟨n2, e2, _⟩ := DataW.trod_int (show Tryz.prog.underlying 22 = some (.int .u32) by kernel_rfl) h2
  obtain ⟨s3, e3, _⟩ := DataW.trod_string (show Tryz.prog.underlying 9 = some .string by kernel_rfl) h3
  simp at e0 e1 e2 e3
  subst e0 e1 e2 e3
  exact ⟨⟨n0, n1, n2, s3.data.toList⟩, rfl⟩
theorem gAsk_VR (ρ : Rho) (a : Gw.Ask) : VRs ρ a.vs (gAsk a) := by simp [VRs, VR, Gw.Ask.vs, gAsk]
end Go.Proofs.YtjnhaaolbcmdbaaGreatDoor
namespace Go.Proofs.YtjnhaaolbcmdbaaGreatDoor.boxAll
open Go Gw Go.RowKit Go.ChangeShapes Go.WideShapes Go.ChangeAt
set_option maxRecDepth 1000000
theorem ranNil : isTrue (callN (mkX px2 ox2) D 10000 5 [.nils, anyV] h0) = true := by kernel_rfl
theorem walkNil {W : World} (T : Tabs W kT0 kT1 kT2) (v : Value) : Calls Tryz.prog 5 #[.slice none 0 0, v] W fun e W' => e = .returned (.bool true) ∧ Below W.heap.size W W' := by
  obtain ⟨ρ, hG, _, hH, _⟩ := HR.tabs T (fun k => k < W.heap.size) (fun _ h => h) 3 (Nat.le_refl _)
  obtain ⟨h', hc⟩ := isTrue_some ranNil
  refine (walk_of tab2.ext hc (xs := #[.slice none 0 0, v]) hG (VRs.cons (by simp only [VR]) (VRs.cons (VR.any _ _) (by simp [VRs]))) hH).mono fun e w' ⟨⟨x, ρ', h1, h2⟩, h3⟩ => ⟨?_, h3⟩
  subst h1
  simp only [VR] at h2
  rw [h2]
theorem loopsBA : loopsIn 0 (dOf 5).body = [(0, lpOf 5 0)] := by kernel_rfl
theorem runS (xs : List Gw.Ask) (tk : List Bool) : Run Tryz.prog 5 [.slice 3 0 xs.length 4 none, .slice 4 0 tk.length 1 none] (hBAS xs tk) fun r _ => r = .bool true := by
  refine run_loops mixed tab2 tabD (dIs (by kernel_rfl)) (lt := ltBAS xs tk) (fun hint p hp => ?_) (treeBAFS_eq xs tk) (Q := fun r => r = .bool true) (satBAS xs tk)
  rw [loopsBA] at hp
  simp only [List.mem_cons, List.not_mem_nil, or_false] at hp
  subst hp
  exact LoopW.lt1 mixed tab2 tabD (loop5 xs (some tk)) mu5 (fun ex => match ex with | .normal => ⟨show 3 ≤ 6 by decide, show 5 ≤ 6 by decide⟩ | .exit _ => ⟨show 3 ≤ 5 by decide, show 5 ≤ 5 by decide⟩ | .ret => ⟨show 3 ≤ 5 by decide, show 5 ≤ 5 by decide⟩) (by kernel_rfl)
    (orc := fun i => match i with | (i, none) => orcBASN xs tk i | (i, some l) => orcBASS xs tk i l)
    (tree := fun i => match i with | (i, none) => treeBASN xs tk i | (i, some l) => treeBASS xs tk i l)
    (fun i => match i with | (i, none) => treeBASN_eq xs tk i | (i, some l) => treeBASS_eq xs tk i l)
    (fun i Pr ho => match i, ho with | (i, none), ho => roundSN xs tk i Pr ho | (i, some l), ho => roundSS xs tk i l Pr ho)
theorem runN (xs : List Gw.Ask) : Run Tryz.prog 5 [.slice 3 0 xs.length 4 none, .nils] (hBAN xs) fun r _ => r = .bool true := by
  refine run_loops mixed tab2 tabD (dIs (by kernel_rfl)) (lt := ltBAN xs) (fun hint p hp => ?_) (treeBAFN_eq xs) (Q := fun r => r = .bool true) (satBAN xs)
  rw [loopsBA] at hp
  simp only [List.mem_cons, List.not_mem_nil, or_false] at hp
  subst hp
  exact LoopW.lt1 mixed tab2 tabD (loop5 xs none) mu5 (fun ex => match ex with | .normal => ⟨show 3 ≤ 6 by decide, show 5 ≤ 6 by decide⟩ | .exit _ => ⟨show 3 ≤ 5 by decide, show 5 ≤ 5 by decide⟩ | .ret => ⟨show 3 ≤ 5 by decide, show 5 ≤ 5 by decide⟩) (by kernel_rfl)
    (orc := fun i => match i with | (i, none) => orcBANN xs i | (i, some l) => orcBANS xs i l)
    (tree := fun i => match i with | (i, none) => treeBANN xs i | (i, some l) => treeBANS xs i l)
    (fun i => match i with | (i, none) => treeBANN_eq xs i | (i, some l) => treeBANS_eq xs i l)
    (fun i Pr ho => match i, ho with | (i, none), ho => roundNN xs i Pr ho | (i, some l), ho => roundNS xs i l Pr ho)

theorem walkN {W : World} (T : Tabs W kT0 kT1 kT2) {L : Gw.Loc} {l : List Gw.Ask} {a : Addr} {k : Nat} {c : Array Value} {e' : TypeId} {fz : Nat × Nat} (h2 : l.length ≤ k) (h3 : a.block = L.b) (h4 : k = 0 ∨ (a = ⟨L.b, L.o, none⟩ ∧ L.o + k * 4 ≤ L.z))
    (h5 : W.heap[L.b]? = some (.cells c e' fz)) (h6 : c.size = L.z) (h7 : L.o + l.length * 4 ≤ L.z) (h8 : ∀ i x, l[i]? = some x → ∀ j, j < 4 → c[L.o + i * 4 + j]? = (gAsk x)[j]?) :
    Calls Tryz.prog 5 #[.slice (some a) l.length k, .slice none 0 0] W fun e W' => e = .returned (.bool true) ∧ Below W.heap.size W W' := by
  obtain ⟨ρ, hG, hN, hH, hR⟩ := HR.tabs T (fun k => k < W.heap.size) (fun _ h => h) 5 (by omega)
  obtain ⟨ρ', hle, hH', hv⟩ := HR.argN hH hR (i := 3) (by show 3 < 5; omega) (by kernel_rfl) Gw.Ask.vs (g := gAsk) (z := 4) (fun _ => rfl) gAsk_VR h2 h3 h4 h5 h6 h7 h8
  have hr := (runN l).2 (fun k => k < W.heap.size) ρ' [.slice (some a) l.length k, .slice none 0 0] W (hG.mono hle) (VRs.cons hv (VRs.cons (by simp only [VR]) (by simp [VRs]))) hH'
  refine hr.mono fun e w' ⟨x, r, h', ρ2, h1, h2, _, h4, _, h6⟩ => ⟨?_, h6.below⟩
  subst h1 h2
  simp only [VR] at h4
  rw [h4]
theorem walkS {W : World} (T : Tabs W kT0 kT1 kT2) {L : Gw.Loc} {l : List Gw.Ask} {a : Addr} {k : Nat} {c : Array Value} {e' : TypeId} {fz : Nat × Nat} (h2 : l.length ≤ k) (h3 : a.block = L.b) (h4 : k = 0 ∨ (a = ⟨L.b, L.o, none⟩ ∧ L.o + k * 4 ≤ L.z))
    (h5 : W.heap[L.b]? = some (.cells c e' fz)) (h6 : c.size = L.z) (h7 : L.o + l.length * 4 ≤ L.z) (h8 : ∀ i x, l[i]? = some x → ∀ j, j < 4 → c[L.o + i * 4 + j]? = (gAsk x)[j]?)
    {M : Gw.Loc} {m : List Bool} {b : Addr} {q : Nat} {d : Array Value} {e2 : TypeId} {fy : Nat × Nat} (g2 : m.length ≤ q) (g3 : b.block = M.b) (g4 : q = 0 ∨ (b = ⟨M.b, M.o, none⟩ ∧ M.o + q ≤ M.z))
    (g5 : W.heap[M.b]? = some (.cells d e2 fy)) (g6 : d.size = M.z) (g7 : M.o + m.length ≤ M.z) (g8 : ∀ i x, m[i]? = some x → d[M.o + i]? = some (Value.bool x)) :
    Calls Tryz.prog 5 #[.slice (some a) l.length k, .slice (some b) m.length q] W fun e W' => e = .returned (.bool true) ∧ Below W.heap.size W W' := by
  obtain ⟨ρ, hG, hN, hH, hR⟩ := HR.tabs T (fun k => k < W.heap.size) (fun _ h => h) 5 (by omega)
  obtain ⟨ρ', hle, hH', hv⟩ := HR.argN hH hR (i := 3) (by show 3 < 5; omega) (by kernel_rfl) Gw.Ask.vs (g := gAsk) (z := 4) (fun _ => rfl) gAsk_VR h2 h3 h4 h5 h6 h7 h8
  have hR' : Heap.RO ((tabH kT0 kT1 kT2 5).put 3 (some (.cells true (l.flatMap Gw.Ask.vs)))) := hR.put 3 _
  obtain ⟨ρ1, hle1, hH1, hv1⟩ := HR.arg1 hH' hR' (i := 4) (by show 4 < 5; omega) (by rw [Heap.get_put, if_neg (by omega)]; kernel_rfl) V.bool (g := Value.bool) (fun ρ x => by simp only [VR]) g2 g3 g4 g5 g6 g7 g8
  have hr := (runS l m).2 (fun k => k < W.heap.size) ρ1 [.slice (some a) l.length k, .slice (some b) m.length q] W ((hG.mono hle).mono hle1) (VRs.cons (VR.mono hle1 _ _ hv) (VRs.cons hv1 (by simp [VRs]))) hH1
  refine hr.mono fun e w' ⟨x, r, h', ρ2, h1, h2, _, h4, _, h6⟩ => ⟨?_, h6.below⟩
  subst h1 h2
  simp only [VR] at h4
  rw [h4]
theorem params : Tryz.f5.params = #[46, 47] := by kernel_rfl
theorem contract (H : Type) (enc : TypeId × Value → H) (W : World) (base : Nat) (args : Array Value) (ds gs : List (DataW H)) (before : List MemPlace)
    (hval : ∀ (j : Nat) t v, Tryz.f5.params[j]? = some t → args[j]? = some v → Value.okWide Tryz.prog W .any base t v)
    (hW : DataW.Whole enc Tryz.prog Tryz.f5.params.toList Rows.boxAllSpec.vars false W args.toList ds gs before) (hL : laidMetH Tryz.prog Rows.boxAllRow.laid W) :
    Calls Tryz.prog 5 args W fun e W' => ∃ v, e = .returned v ∧ Rows.boxAllSpec.post enc Tryz.prog Tryz.f5 false true false false W args v W' := by
  have hW' := hW
  obtain ⟨p, q, hA, _⟩ := hW
  rw [params] at hA hval
  obtain ⟨v0, vs0, d0, ds0, p0, q0, e0, _, _, h0, r0⟩ := trodAll_cons hA
  obtain ⟨v1, vs1, d1, ds1, p1, q1, e1, _, _, h1, r1⟩ := trodAll_cons r0
  obtain ⟨z, _, _⟩ := trodAll_nil r1
  obtain rfl : args = #[v0, v1] := by cases args; simp_all
  have go : Calls Tryz.prog 5 #[v0, v1] W fun e W' => e = .returned (.bool true) ∧ Below W.heap.size W W' := by
    rcases open_rowN (A := Gw.Ask) gAsk (z := 4) (by decide) (show Tryz.prog.underlying 46 = some (.slice 51) by kernel_rfl) (by kernel_rfl) (fun n cs x hx => ask_open hx) (hval 0 46 v0 rfl rfl) h0 with rfl | ⟨L, l, a, k, c, e', fz, rfl, h2, h3, h4, h5, h6, h7, h8⟩
    · exact walkNil (tabs hL) v1
    · rcases open_row1 (A := Bool) Value.bool (show Tryz.prog.underlying 47 = some (.slice 4) by kernel_rfl) (by kernel_rfl) (fun n V x hx => by
        obtain ⟨s, hs, _⟩ := DataW.trod_bool (show Tryz.prog.underlying 4 = some .bool by kernel_rfl) hx
        exact ⟨s, by simpa using hs⟩) (hval 1 47 v1 rfl rfl) h1 with rfl | ⟨M, m, b, q, d, e2, fy, rfl, g2, g3, g4, g5, g6, g7, g8⟩
      · exact walkN (tabs hL) h2 h3 h4 h5 h6 h7 h8
      · exact walkS (tabs hL) h2 h3 h4 h5 h6 h7 h8 g2 g3 g4 g5 g6 g7 g8
  refine go.mono fun e W' ⟨he, hB⟩ => ⟨_, he, ?_⟩
  refine post_true laidOut (by kernel_rfl) rfl (tb := 4) rfl u4 (fun ds hd => ?_) hW' hB
  rw [params] at hd
  match ds, hd with
  | [a0, a1], _ => exact ⟨rfl, rfl, rfl⟩

noncomputable def wArgs : Array Value := #[.slice none 0 0, .slice none 0 0]
theorem reads (os : Os) {H : Type} (enc : TypeId × Value → H) : ∃ places, DataW.whole enc Tryz.prog ((laidWorld os).forCall (fun _ _ => 0) ⟨#[], wArgs, []⟩).memory Tryz.f5.params.toList Rows.boxAllSpec.vars false wArgs.toList 8 = some ([.nil, .nil], [], places) :=
  ⟨[], by kernel_rfl⟩

theorem lifted (os : Os) (started : os.Started) (H : Type) (enc : TypeId × Value → H) (F : Stop.Interp) :
    ReturnsInHanded {} Tryz.checked os 5 .any ((OpenSpec.ofChange Rows.boxAllSpec).preRow enc Tryz.prog Tryz.f5 Rows.boxAllRow.domain false Rows.boxAllRow.laid) (((OpenSpec.ofChange Rows.boxAllSpec).at F).post enc Tryz.prog Tryz.f5 false true false false) := by
  obtain ⟨places, hx⟩ := reads os enc
  refine returnsInHanded_of_row (C := Tryz.checked) (s := OpenSpec.ofChange Rows.boxAllSpec) own started (by kernel_rfl) Tryz.func5
    (witness_row_at (enc := enc) (C := Tryz.checked) false (laidWorld os) wArgs rfl (by kernel_rfl) (by kernel_rfl) (by kernel_rfl)
      (OpenSpec.preRow_of_cond 8 hx (by kernel_rfl) (fun k hk => by cases hk) (by kernel_rfl) (laid_met os _))) ?_
  intro W base args ds gs before hval hW _ _ _ hL _ _
  exact contract H enc W base args ds gs before hval hW hL

theorem said : Rows.BoxAllSaid :=
  OpenClaim.holds_of_cond 5 Tryz.f5 rfl rfl rfl rfl rfl rfl rfl ⟨rfl, rfl, rfl, rfl, rfl⟩ rfl rfl rfl rfl rfl (by kernel_rfl) Tryz.func5 (by kernel_rfl)
    (of_decide_eq_true (by kernel_rfl)) (by unfold Func.isWrapper; first | (rw [if_pos (by decide +kernel)]; kernel_rfl) | (rw [if_neg (by decide +kernel)]; exact ⟨rfl, rfl⟩))
    (fun os started H enc _ F => by rw [OpenClaim.pre_eq_preRow]; exact lifted os started H enc F)

theorem plain (f : FuncId) (fn : Func) (hf : Tryz.pinned.checked.prog.funcNamed "glowworm/glowwormlaw16.BoxAll" = some f) (hfn : Tryz.pinned.checked.prog.funcs[f]? = some fn) :
    true = Tryz.pinned.checked.prog.looks [] ∧ ∀ (j : Nat) t, fn.params[j]? = some t → Tryz.pinned.checked.prog.wantsStandIn t = false := by
  obtain rfl : f = 5 := Option.some.inj ((show Tryz.prog.funcNamed "glowworm/glowwormlaw16.BoxAll" = some 5 by kernel_rfl).symm.trans hf) |>.symm
  obtain rfl : fn = Tryz.f5 := (Option.some.inj (Tryz.func5.symm.trans hfn)).symm
  refine ⟨by kernel_rfl, fun j t ht => ?_⟩
  have hall : Tryz.f5.params.toList.all (fun t => Tryz.prog.wantsStandIn t == false) = true := by kernel_rfl
  have hm : t ∈ Tryz.f5.params.toList := by
    have := Array.mem_of_getElem? ht
    simpa using this
  have := List.all_eq_true.1 hall t hm
  have h2 : Tryz.prog.wantsStandIn t = false := by simpa using this
  exact h2

theorem card : Rows.BoxAllCardSaid :=
  Claim7.holds_tied_plain_at .later [] _ _ _ _ said (fun _ h => by cases h) (by kernel_rfl) (fun _ h => by cases h) boxAll_row_tie rfl ⟨rfl, rfl⟩ (by kernel_rfl) rfl plain (by kernel_rfl)
end Go.Proofs.YtjnhaaolbcmdbaaGreatDoor.boxAll
