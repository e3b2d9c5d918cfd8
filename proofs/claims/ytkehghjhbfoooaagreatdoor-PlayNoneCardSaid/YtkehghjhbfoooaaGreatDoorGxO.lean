/- Offers, deals, beginnings, as plain Lean. -/
import Derived.Test.YtkehghjhbfoooaaGreatDoorGxT8
import Derived.Test.YtkehghjhbfoooaaGreatDoorGxB4
namespace Gw
open Go Go.RowKit

def band (n : Int) (m : Nat) : Int := ((Nat.land (bitsK .i64 n) m : Nat) : Int)
theorem band_bnd (n : Int) (m : Nat) : 0 ≤ band n m ∧ band n m ≤ (m : Int) := by
  unfold band
  have : Nat.land (bitsK .i64 n) m ≤ m := Nat.and_le_right
  omega
def odd1 (x : Int) : Int := if x % 2 = 1 then x else x + 1
def max1 (x : Int) : Int := if 1 > x then 1 else x
def fineO (o : Offer) : Offer := ⟨odd1 (band o.baud 15), odd1 (band o.silent 7), max1 (band o.win 127), max1 (band o.size 15), max1 (band o.wait 7)⟩
def mayO (o : Offer) : Bool := decide (o.baud % 2 = 1) && decide (o.silent % 2 = 1) && decide (1 ≤ o.baud) && decide (o.baud ≤ 15) && decide (1 ≤ o.silent) && decide (o.silent ≤ 7) && decide (1 ≤ o.win) && decide (o.win ≤ 127) && decide (1 ≤ o.size) && decide (o.size ≤ 15) && decide (1 ≤ o.wait) && decide (o.wait ≤ 7)
structure MayO (o : Offer) : Prop where
  b1 : o.baud % 2 = 1
  s1 : o.silent % 2 = 1
  b : 1 ≤ o.baud ∧ o.baud ≤ 15
  s : 1 ≤ o.silent ∧ o.silent ≤ 7
  w : 1 ≤ o.win ∧ o.win ≤ 127
  z : 1 ≤ o.size ∧ o.size ≤ 15
  t : 1 ≤ o.wait ∧ o.wait ≤ 7
theorem mayO_iff (o : Offer) : mayO o = true ↔ MayO o := by
  simp only [mayO, Bool.and_eq_true, decide_eq_true_eq]
  constructor
  · rintro ⟨⟨⟨⟨⟨⟨⟨⟨⟨⟨⟨h1, h2⟩, h3⟩, h4⟩, h5⟩, h6⟩, h7⟩, h8⟩, h9⟩, h10⟩, h11⟩, h12⟩
    exact ⟨h1, h2, ⟨h3, h4⟩, ⟨h5, h6⟩, ⟨h7, h8⟩, ⟨h9, h10⟩, ⟨h11, h12⟩⟩
  · rintro ⟨h1, h2, ⟨h3, h4⟩, ⟨h5, h6⟩, ⟨h7, h8⟩, ⟨h9, h10⟩, ⟨h11, h12⟩⟩
    exact ⟨⟨⟨⟨⟨⟨⟨⟨⟨⟨⟨h1, h2⟩, h3⟩, h4⟩, h5⟩, h6⟩, h7⟩, h8⟩, h9⟩, h10⟩, h11⟩, h12⟩
theorem mayO_fine (o : Offer) : MayO (fineO o) := by
  have h1 := band_bnd o.baud 15
  have h2 := band_bnd o.silent 7
  have h3 := band_bnd o.win 127
  have h4 := band_bnd o.size 15
  have h5 := band_bnd o.wait 7
  constructor <;> simp only [fineO, odd1, max1] <;> split <;> omega

def hiL (n : Int) : Int := if n < 1 then -1 else if n < 2 then 0 else if n < 4 then 1 else if n < 8 then 2 else if n < 16 then 3 else if n < 32 then 4 else if n < 64 then 5 else 6
def loL (n : Int) : Int := if n % 2 = 1 then 0 else if n % 4 = 2 then 1 else if n % 8 = 4 then 2 else -1
def baudL (i : Int) : Int := if i = 0 then 32 else if i = 1 then 64 else if i = 2 then 128 else if i = 3 then 256 else 0
def sizeL (i : Int) : Int := if i = 0 then 8 else if i = 1 then 16 else if i = 2 then 32 else if i = 3 then 64 else 0
def frameL (size baud : Int) : Int := (2 * (size + 5) + 1) / baud + 1
def winGo : Nat → Int → Int → Int
  | 0, w, _ => w
  | k + 1, w, f => if 1 < w ∧ 30 < w * f then winGo k (w - 1) f else w
def winL (w f : Int) : Int := winGo 7 w f
def cbaud (a b : Offer) : Int := band a.baud b.baud.toNat
def dealL (a b : Offer) : Deal := ⟨baudL (hiL (cbaud a b)), 200, winL (hiL b.win + 1) (frameL (sizeL (hiL b.size)) (baudL (hiL (cbaud a b)))), sizeL (hiL b.size), loL b.wait⟩

structure SetupL where
  src : Int
  dst : Int
  seat : Int
  count : Int
  o : Offer
def SetupL.vs (x : SetupL) : List V := [.int .u32 x.src, .int .u32 x.dst, .int .i64 x.seat, .int .i64 x.count, .int .i64 x.o.baud, .int .i64 x.o.silent, .int .i64 x.o.win, .int .i64 x.o.size, .int .i64 x.o.wait]
structure OkSetup (x : SetupL) : Prop where
  s : 0 < x.src ∧ x.src < 4294967295
  d : 0 < x.dst ∧ x.dst < 4294967295
  seat : 0 ≤ x.seat ∧ x.seat < 8
  count : 0 ≤ x.count ∧ x.count < 250
  o : MayO x.o
def b8 (n : Int) : UInt8 := UInt8.ofNat n.toNat
def setupStr (x : SetupL) : Str := [b8 (x.src % 256), b8 (x.src / 256 % 256), b8 (x.src / 65536 % 256), b8 (x.src / 16777216 % 256), b8 (x.dst % 256), b8 (x.dst / 256 % 256), b8 (x.dst / 65536 % 256), b8 (x.dst / 16777216 % 256), b8 x.seat, b8 x.count,
  1, 1, b8 x.o.baud, 2, 1, b8 x.o.silent, 3, 1, b8 x.o.win, 4, 1, b8 x.o.size, 5, 1, b8 x.o.wait]
theorem b8_toNat {n : Int} (h : 0 ≤ n ∧ n < 256) : (((b8 n).toNat : Nat) : Int) = n := by
  unfold b8
  rw [UInt8.toNat_ofNat']
  have : n.toNat % 2 ^ 8 = n.toNat := Nat.mod_eq_of_lt (by omega)
  omega
theorem bits_small {n : Int} (h : 0 ≤ n ∧ n < 18446744073709551616) : bitsK .i64 n = n.toNat := by
  unfold bitsK modK
  simp only
  congr 1
  omega
theorem wrap_small {n : Int} (h : 0 ≤ n ∧ n < 9223372036854775808) : wrapK .i64 n = n := by
  unfold wrapK
  simp only
  split <;> omega
end Gw

/- Answers with a domain; what they come to may be given by the place, and is asked for then. -/
noncomputable section
namespace Gw
open Go Go.RowKit

def gD (dom : List V → Prop) (p : List V → V) (orc : Nat → Option V) (args : List V) (h : Heap) : DT (V × Heap) :=
  .ob (dom args) (match orc h.n with | some v => .ob (p args = v) (.leaf (v, h)) | none => .leaf (p args, h))
theorem gD_iff {dom : List V → Prop} {p : List V → V} {orc : Nat → Option V} {args : List V} {h : Heap} {r : V} {h' : Heap} :
    (gD dom p orc args h).run = some (r, h') ↔ dom args ∧ (∀ v, orc h.n = some v → p args = v) ∧ r = p args ∧ h' = h := by
  classical
  unfold gD
  cases ho : orc h.n with
  | none =>
    by_cases hd : dom args
    · simp only [DT.run, hd, if_true, Option.some.injEq, Prod.mk.injEq, true_and, reduceCtorEq, false_implies, implies_true]
      exact and_congr eq_comm eq_comm
    · simp [DT.run, hd]
  | some v =>
    by_cases hd : dom args
    · by_cases hv : p args = v
      · simp only [DT.run, hd, hv, if_true, Option.some.injEq, Prod.mk.injEq, true_and, forall_eq']
        exact and_congr eq_comm eq_comm
      · simp [DT.run, hd, hv]
    · simp [DT.run, hd]
theorem ansD {P : Program} {f : Nat} {dom : List V → Prop} {p : List V → V} (orc : Nat → Option V) (hp : ∀ args, dom args → V.flats args = true ∧ (p args).flat = true ∧ Run P f args (smallH []) fun r _ => r = p args) : AnsO P f (fun args h => (gD dom p orc args h).run) := by
  classical
  have A : AnsO P f (gP fun args => if dom args then some (p args) else none) := ansP fun args v h => by
    split at h
    · rename_i hd
      simp only [Option.some.injEq] at h
      subst h
      exact hp args hd
    · cases h
  refine ⟨fun args h r h' hr i b hf => ?_, fun args h r h' hr => ?_⟩
  · obtain ⟨h1, h2, h3, h4⟩ := gD_iff.1 hr
    subst h4
    exact ⟨gD_iff.2 ⟨h1, h2, h3, rfl⟩, hf⟩
  · obtain ⟨h1, h2, h3, h4⟩ := gD_iff.1 hr
    subst h3 h4
    refine A.ok args h' (p args) h' ?_
    simp only [gP, if_pos h1]
/-- The same, where the laid tables are. -/
def gDT (k0 k1 k2 : List Int) (dom : List V → Prop) (p : List V → V) (orc : Nat → Option V) (args : List V) (h : Heap) : DT (V × Heap) :=
  match tabIn k0 k1 k2 h with
  | some _ => gD dom p orc args h
  | none => .fail
theorem fr_tabIn (k0 k1 k2 : List Int) : FrR (tabIn k0 k1 k2) :=
  (fr_preAt 0 k0).bindR (g := fun _ h => (preAt h 1 k1).bind fun _ => preAt h 2 k2) fun _ => (fr_preAt 1 k1).bindR (g := fun _ h => preAt h 2 k2) fun _ => fr_preAt 2 k2
theorem gDT_iff {k0 k1 k2 : List Int} {dom : List V → Prop} {p : List V → V} {orc : Nat → Option V} {args : List V} {h : Heap} {r : V} {h' : Heap} :
    (gDT k0 k1 k2 dom p orc args h).run = some (r, h') ↔ tabIn k0 k1 k2 h = some () ∧ (gD dom p orc args h).run = some (r, h') := by
  unfold gDT
  cases tabIn k0 k1 k2 h with
  | none => simp [DT.run]
  | some u => simp
theorem ansDT {P : Program} {f : Nat} {k0 k1 k2 : List Int} {dom : List V → Prop} {p : List V → V} (orc : Nat → Option V) (hp : ∀ args, dom args → V.flats args = true ∧ (p args).flat = true ∧ Run P f args (tabH k0 k1 k2 3) fun r _ => r = p args) : AnsO P f (fun args h => (gDT k0 k1 k2 dom p orc args h).run) := by
  refine ⟨fun args h r h' hr i b hf => ?_, fun args h r h' hr => ?_⟩
  · obtain ⟨ht, hr⟩ := gDT_iff.1 hr
    obtain ⟨h1, h2, h3, h4⟩ := gD_iff.1 hr
    subst h4
    exact ⟨gDT_iff.2 ⟨fr_tabIn k0 k1 k2 _ _ ht i b hf, gD_iff.2 ⟨h1, h2, h3, rfl⟩⟩, hf⟩
  · obtain ⟨ht, hr⟩ := gDT_iff.1 hr
    obtain ⟨h1, h2, h3, h4⟩ := gD_iff.1 hr
    subst h3 h4
    obtain ⟨ha, hfl, hrun⟩ := hp args h1
    refine ⟨hrun.1, fun B ρ xs w hG hv H => ?_⟩
    simp only [tabIn, Option.bind_eq_some_iff] at ht
    obtain ⟨_, t0, _, t1, t2⟩ := ht
    obtain ⟨ρ0, g0, _, H0, _⟩ := HR.tabsP (TabP.of_pre H hG (by decide) t0) (TabP.of_pre H hG (by decide) t1) (TabP.of_pre H hG (by decide) t2) (fun k => k < w.heap.size) (fun _ h => h) 3 (Nat.le_refl _)
    refine (hrun.2 (fun k => k < w.heap.size) ρ0 xs w g0 (VRs.flat _ _ ha hv) H0).mono fun e w' ⟨x, r, h2, ρ', e1, hq, _, e3, _, e5⟩ => ?_
    subst hq
    exact ⟨x, ρ, e1, Le.refl _, VR.flat _ _ hfl e3, H.below e5.below, e5.mono fun k hk => H.low k hk⟩
/-- A run that gives a number. -/
def isInt (r : Option (V × Heap)) (m : Int) : Bool := match r with
  | some (.int .i64 n, _) => n == m
  | _ => false
theorem run_int {P : Program} (hm : P.follows .mixedOrders = true) {X : Ext} (hX : ExtS P X) {D : Nat → Option DF} (hD : Tab P D) {n f : Nat} {args : List V} {h : Heap} {m : Int} (hc : isInt (callN X D n f args h) m = true) : Run P f args h fun r' _ => r' = .int .i64 m := by
  unfold isInt at hc
  split at hc
  · rename_i q h1 hq
    have e : q = m := by simpa using hc
    subst e
    obtain ⟨h2, h3⟩ := sd_call hm hX hD n f args h _ _ hq
    exact ⟨h2, fun B ρ xs w hG hv H => (h3 B ρ xs w hG hv H).mono fun e w' ⟨x, ρ', e1, e2, e3, e4, e5⟩ => ⟨x, _, _, ρ', e1, rfl, e2, e3, e4, e5⟩⟩
  · cases hc
theorem sat_ob {α : Type} {p : Prop} {x : DT α} {Q : α → Prop} (h : p) (h2 : x.sat Q) : (DT.ob p x).sat Q := ⟨h, h2⟩
theorem sat_leaf {α : Type} {a : α} {Q : α → Prop} (h : Q a) : (DT.leaf a).sat Q := h
theorem sat_node {α : Type} {c : Bool} {x y : DT α} {Q : α → Prop} (h1 : c = true → x.sat Q) (h2 : c = false → y.sat Q) : (DT.node c x y).sat Q := ⟨h1, h2⟩
def noV : Nat → Option V := fun _ => none
end Gw
