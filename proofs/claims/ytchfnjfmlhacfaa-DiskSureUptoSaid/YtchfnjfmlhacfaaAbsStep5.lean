/- Slices, nil or not; loops by invariants; whole numbers' operations on bits; structs built and parted. -/
import Derived.Test.YtchfnjfmlhacfaaAbsStep4
namespace Go.Abs
open Go.RowKit

/-! Slices. -/
def sb (a : Option Addr) : Nat := (a.map (·.block)).getD 0
def so (a : Option Addr) : Nat := (a.map (·.off)).getD 0
def sub (a : Option Addr) (k : Nat) : Option Addr := a.map fun x => ⟨x.block, x.off + k, none⟩

/-- A slice of m elements of z cells, whose cells are told by f; its block has a number below n. -/
structure SlR (h : AH) (n : Nat) (a : Option Addr) (z m : Nat) (f : Nat → Value) : Prop where
  shape : (a = none ∧ m = 0) ∨ (a = some ⟨sb a, so a, none⟩ ∧ sb a < n ∧ ∃ mm, h.info (sb a) = some mm ∧ mm.sz = z)
  cell : ∀ j, j < m * z → h.cell (sb a) (so a + j) = f j

/-- Its address, where it has elements. -/
def SlA (a : Option Addr) (m : Nat) : Prop := (a = none ∧ m = 0) ∨ a = some ⟨sb a, so a, none⟩

section
variable {h h' : AH} {n n' : Nat} {a : Option Addr} {z m : Nat} {f : Nat → Value}
theorem SlR.sla (s : SlR h n a z m f) : SlA a m := by
  rcases s.shape with h | h
  · exact .inl h
  · exact .inr h.1
theorem SlA.eq (s : SlA a m) (hm : 0 < m) : a = some ⟨sb a, so a, none⟩ := by
  rcases s with h | h
  · omega
  · exact h
theorem SlR.lt (s : SlR h n a z m f) (hm : 0 < m) : sb a < n := by
  rcases s.shape with h | h
  · omega
  · exact h.2.1
theorem SlR.ext (s : SlR h n a z m f) (e : Ext n h h') (hn : n ≤ n') : SlR h' n' a z m f where
  shape := by
    rcases s.shape with k | ⟨k1, k2, mm, k3, k4⟩
    · exact .inl k
    · exact .inr ⟨k1, by omega, mm, by rw [e.info _ k2]; exact k3, k4⟩
  cell := fun j hj => by
    have hm : 0 < m := Nat.pos_of_ne_zero fun h0 => by subst h0; simp at hj
    rw [e.cell _ _ (s.lt hm)]; exact s.cell j hj
theorem SlR.at (s : SlR h n a z m f) (e : Ext n h h') {j : Nat} (hj : j < m * z) : h'.cell (sb a) (so a + j) = f j := by
  have hm : 0 < m := Nat.pos_of_ne_zero fun h0 => by subst h0; simp at hj
  rw [e.cell _ _ (s.lt hm)]; exact s.cell j hj
theorem SlR.rd (s : SlR h n a z m f) (e : Ext n h h') {i k : Nat} (hk : i + k ≤ m * z) : rd h' (sb a) (so a + i) k = (List.range k).map fun j => f (i + j) := by
  apply List.ext_getElem
  · simp [rd_length]
  · intro j h1 h2
    rw [rd_length] at h1
    have e1 := rd_getD h' (sb a) k (so a + i) j h1
    have e2 : (Abs.rd h' (sb a) (so a + i) k).getD j (.tuple #[]) = (Abs.rd h' (sb a) (so a + i) k)[j]'(by rw [rd_length]; exact h1) := by simp [List.getD, rd_length, h1]
    rw [← e2, e1, Nat.add_assoc, s.at e (by omega)]
    simp
theorem SlR.congr {g : Nat → Value} (s : SlR h n a z m f) (e : ∀ j, j < m * z → f j = g j) : SlR h n a z m g := ⟨s.shape, fun j hj => (s.cell j hj).trans (e j hj)⟩
theorem SlR.nil : SlR h n none z 0 f := ⟨.inl ⟨rfl, rfl⟩, fun j hj => by simp at hj⟩
theorem SlR.new {b : Nat} {mm : Meta} (hb : b < n) (hi : h.info b = some mm) (hz : mm.sz = z) (hc : ∀ j, j < m * z → h.cell b j = f j) : SlR h n (some ⟨b, 0, none⟩) z m f :=
  ⟨.inr ⟨rfl, hb, mm, hi, hz⟩, fun j hj => by show h.cell b (0 + j) = f j; rw [Nat.zero_add]; exact hc j hj⟩
theorem sb_sub (a : Option Addr) (k : Nat) : sb (sub a k) = sb a := by cases a <;> rfl
theorem so_sub (x : Addr) (k : Nat) : so (sub (some x) k) = so (some x) + k := rfl
theorem SlR.sub {l u : Nat} (s : SlR h n a z m f) (hl : l ≤ u) (hu : u ≤ m) : SlR h n (Abs.sub a (l * z)) z (u - l) (fun j => f (l * z + j)) where
  shape := by
    rcases s.shape with ⟨k1, k2⟩ | ⟨k1, k2, k3⟩
    · subst k1; exact .inl ⟨rfl, by omega⟩
    · right
      rw [sb_sub]
      refine ⟨?_, k2, k3⟩
      rw [k1]; rfl
  cell := fun j hj => by
    have hlt : l * z + j < m * z := by
      have : (u - l) * z + l * z = u * z := by rw [← Nat.add_mul]; congr 1; omega
      have : u * z ≤ m * z := Nat.mul_le_mul_right _ hu
      omega
    have hm : 0 < m := Nat.pos_of_ne_zero fun h0 => by subst h0; simp at hlt
    rcases s.shape with ⟨k1, k2⟩ | ⟨k1, k2, k3⟩
    · omega
    · have := s.cell (l * z + j) hlt
      rw [sb_sub]
      rw [show so (Abs.sub a (l * z)) = so a + l * z by rw [k1]; rfl]
      rw [Nat.add_assoc]; exact this
end

theorem Ext.mono {n n1 : Nat} {h h' : AH} (e : Ext n1 h h') (hn : n ≤ n1) : Ext n h h' := ⟨fun b hb => e.info b (by omega), fun b i hb => e.cell b i (by omega)⟩
theorem Ext.then {n : Nat} {h h1 h2 : AH} (a : Ext n h h1) (b : Ext n h1 h2) : Ext n h h2 := a.trans (Nat.le_refl _) b
theorem Ext.appNew {n b : Nat} {h h1 : AH} {m : Meta} {cs : List Value} (hb : n ≤ b) (e : Ext n h h1) : Ext n h (h1.app (.new b m cs)) :=
  e.then ⟨fun x hx => by simp [AH.app, Dl.new, show x ≠ b by omega], fun x i hx => by simp [AH.app, Dl.new, show x ≠ b by omega]⟩
theorem Ext.appSets {n b o : Nat} {h h1 : AH} {vs : List Value} (hb : n ≤ b) (e : Ext n h h1) : Ext n h (h1.app (.sets b o vs)) :=
  e.then ⟨fun x hx => sets_info _ _ _ _ _, fun x i hx => by simp [AH.app, Dl.sets, show x ≠ b by omega]⟩
theorem Ext.appTake {n b c sz lk ez : Nat} {keep : Bool} {h h1 : AH} {cs : List Value} (hb : n ≤ b) (hc : n ≤ c) (e : Ext n h h1) : Ext n h (h1.app (.takeover b c keep sz lk ez cs)) :=
  e.then ⟨fun x hx => by simp [AH.app, Dl.takeover, show x ≠ b by omega, show x ≠ c by omega], fun x i hx => by simp [AH.app, Dl.takeover, show x ≠ b by omega, show x ≠ c by omega]⟩
theorem Ext.below {n m : Nat} {h h1 : AH} (hb : n ≤ m) (e : Ext n h h1) : Ext n h (h1.below m) := e.then ((AH.below_ext h1 m).mono hb)

/-! Blocks left, loops by invariants. -/
structure outC (id : Nat) (Q : Exit → Env → Nat → AH → Prop) (e : Exit) (env : Env) (n : Nat) (h : AH) : Prop where
  out : Q (outOf id e) env n h
structure nextC (I : Env → Nat → AH → Prop) (Q : Exit → Env → Nat → AH → Prop) (e : Exit) (env : Env) (n : Nat) (h : AH) : Prop where
  out : match e with
    | .normal => I env n h
    | e => Q e env n h

section
variable {P : Program} {T : Nat → Prop} {N : Nat} {Q : Exit → Env → Nat → AH → Prop} {env : Env} {n : Nat} {h : AH}
theorem RC.blk {id : Nat} {c : Code} (k : RC P T N c env n h (outC id Q)) : RC P T N (.block id c) env n h Q := RC.block (k.mono fun _ _ _ _ q => q.out)
theorem outC.normal {id : Nat} (k : Q .normal env n h) : outC id Q .normal env n h := ⟨k⟩
theorem outC.ret {id : Nat} (k : Q .ret env n h) : outC id Q .ret env n h := ⟨k⟩
theorem outC.same {id : Nat} (k : Q .normal env n h) : outC id Q (.exit id) env n h := ⟨by simp only [outOf, if_true]; exact k⟩
theorem outC.other {id id' : Nat} (hne : Nat.beq id' id = false) (k : Q (.exit id') env n h) : outC id Q (.exit id') env n h := ⟨by
  have : id' ≠ id := fun h => by subst h; simp at hne
  simp only [outOf, if_neg this]; exact k⟩
theorem nextC.normal {I : Env → Nat → AH → Prop} (k : I env n h) : nextC I Q .normal env n h := ⟨k⟩
theorem nextC.ret {I : Env → Nat → AH → Prop} (k : Q .ret env n h) : nextC I Q .ret env n h := ⟨k⟩
theorem nextC.exit {I : Env → Nat → AH → Prop} {id : Nat} (k : Q (.exit id) env n h) : nextC I Q (.exit id) env n h := ⟨k⟩

/-- A loop, by an invariant I over states a; μ falls each round. -/
theorem RL.inv {α : Type} {c : Code} (E : α → Env) (I : α → Nat → AH → Prop) (μ : α → Nat) (a : α) (h0 : Envs env (E a)) (h1 : I a n h)
    (step : ∀ a n h, I a n h → RC P T N c (E a) n h (nextC (fun env' n' h' => ∃ a', μ a' < μ a ∧ Envs env' (E a') ∧ I a' n' h') Q)) : RL P T N c env n h Q := by
  suffices key : ∀ (k : Nat) (a : α) (env : Env) (n : Nat) (h : AH), μ a = k → Envs env (E a) → I a n h → RL P T N c env n h Q from key _ a env n h rfl h0 h1
  intro k
  induction k using Nat.strongRecOn with
  | ind k ih =>
    intro a env n h hk he hI
    refine RL.weak he.le (RL.round ((step a n h hI).mono fun e env' n' h' q => ?_))
    obtain ⟨q⟩ := q
    cases e with
    | normal =>
      obtain ⟨a', k1, k2, k3⟩ := q
      exact .normal (ih (μ a') (by omega) a' env' n' h' rfl k2 k3)
    | _ => exact ⟨q⟩
/-- What follows, of the environment only what is needed. -/
theorem RC.keep {c : Code} {env0 : Env} (h0 : Envs env env0) (k : RC P T N c env0 n h Q) : RC P T N c env n h Q := by
  obtain ⟨e, env', n', h', hx, hq⟩ := k
  exact ⟨e, env', n', h', hx.weaken h0.le (.refl _) (.refl _), hq⟩
end

/-! What the program tells of its types, found by the type's number. -/
class Tc (P : Program) (t : TypeId) (d : outParam TypeDesc) (z by_ : outParam Nat) (zv : outParam Value) : Prop where
  out : TI P t d z by_ zv
class Uc (P : Program) (t : TypeId) (d : outParam TypeDesc) : Prop where
  out : P.underlying t = some d
/-- Field i of struct type s lies at cell off, takes z cells; is it an aggregate? -/
class Fc (P : Program) (s : TypeId) (i : Nat) (off z : outParam Nat) (agg : outParam Bool) : Prop where
  out : ∃ fs f d by_ zv, P.underlying s = some (.struct fs) ∧ fs[i]? = some f ∧ f.offset = off ∧ TI P f.type d z by_ zv ∧ isAggD d = agg ∧ z ≠ 0
/-- A struct type's fields' places and its zero's cells. -/
class Sc (P : Program) (s : TypeId) (places : outParam (List (Nat × Nat))) (zero : outParam (List Value)) : Prop where
  out : ∃ fs z by_ zv, TI P s (.struct fs) z by_ zv ∧ zv.cells.all (flat 8) = true ∧ zv.cells.toList = zero ∧ ∀ w, (fs.mapM fun f => (do pure (f.offset, ← sizeOf f.type) : Sem (Nat × Nat))).run P w = .ok places.toArray w

/-- A struct's parts laid into its cells. -/
inductive Bl (places : List (Nat × Nat)) : List Value → List (Nat × Value) → List Value → Prop
  | nil {cs} : Bl places cs [] cs
  | one {cs cs1 cs2 i v off rest} (hp : places[i]? = some (off, 1)) (ho : v.cells = #[v]) (hl : Nat.ble (off + 1) cs.length = true) (hs : cs.set off v = cs1) (t : Bl places cs1 rest cs2) : Bl places cs ((i, v) :: rest) cs2
  | agg {cs cs1 cs2 i l z off rest} (hp : places[i]? = some (off, z)) (hz : l.length = z) (hl : Nat.ble (off + z) cs.length = true) (hs : cs.take off ++ (l ++ cs.drop (off + z)) = cs1) (t : Bl places cs1 rest cs2) :
      Bl places cs ((i, Value.agg l.toArray) :: rest) cs2
theorem Bl.fill {places : List (Nat × Nat)} {cs ps cs'} (b : Bl places cs ps cs') : Instr.fill (places.toArray[·]?) cs.toArray ps = some cs'.toArray := by
  induction b with
  | nil => rfl
  | @one cs cs1 cs2 i v off rest hp ho hl hs t ih =>
    have hp' : places.toArray[i]? = some (off, 1) := by simpa using hp
    have hl' := Nat.le_of_ble_eq_true hl
    simp only [Instr.fill, hp', ho]
    rw [if_neg (by simp; omega)]
    subst hs
    rw [← ih]
    refine congrArg (fun q => Instr.fill _ q rest) ?_
    rw [← Array.foldl_toList]
    simp
  | @agg cs cs1 cs2 i l z off rest hp hz hl hs t ih =>
    have hp' : places.toArray[i]? = some (off, z) := by simpa using hp
    have hl' := Nat.le_of_ble_eq_true hl
    have hc : (Value.agg l.toArray).cells.size = z := by simpa [Value.cells] using hz
    simp only [Instr.fill, hp']
    rw [if_neg (by rw [hc]; simp; omega)]
    subst hs
    rw [← ih]
    refine congrArg (fun q => Instr.fill _ q rest) ?_
    have := foldl_set l 0 off (cs.take off) ((cs.drop off).take z) (cs.drop (off + z)) (by simp; omega) (by simp; omega)
    have e1 : cs.take off ++ (cs.drop off).take z ++ cs.drop (off + z) = cs := by
      rw [List.append_assoc, ← List.drop_drop, List.take_append_drop, List.take_append_drop]
    rw [e1] at this
    rw [← Array.foldl_toList]
    have e2 : (Value.agg l.toArray).cells.toList = l := rfl
    rw [Array.toList_zipIdx, e2]
    simpa using this

section
variable {P : Program} {T : Nat → Prop} {env : Env} {n : Nat} {g : AH}
variable {dst : Option Tmp} {ty : TypeId} {pos : String} {after : Array Edge} {gd : Option (Nat × Bool)}

theorem o_build {t : TypeId} {ks : List Nat} {xs : List Operand} {vs : List Value} {places : List (Nat × Nat)} {zero cs : List Value} [s : Sc P t places zero] (hx : Opds env xs vs) (hk : ks.length = xs.length) (hok : vs.all okV = true) (hb : Bl places zero (ks.zip vs) cs) :
    OpEv P T ⟨dst, .build t (ks.zip xs).toArray, ty, pos, after, gd⟩ env n g (.agg cs.toArray) n .nil := by
  obtain ⟨fs, z, by_, zv, h1, h2, h3, h4⟩ := s.out
  have hm := hx.map
  have e1 : ((ks.zip xs).toArray.toList.map fun p => (p.1, ev env p.2)) = ks.zip vs := by
    rw [← hm]; simp only [List.zip_map_right]
    rfl
  refine op_build h1 h2 h4 ?_ ?_
  · rw [List.all_eq_true]
    intro p hp
    have hp2 : p.2 ∈ xs := (List.of_mem_zip (a := p.1) (b := p.2) (by simpa using hp)).2
    rw [List.all_eq_true] at hok
    exact hok _ (by rw [← hm]; exact List.mem_map_of_mem hp2)
  · rw [e1]
    have := hb.fill
    rw [← h3] at this
    simpa using this
theorem o_field {t : TypeId} {x : Operand} {i off z : Nat} {l : List Value} {v : Value} [s : Fc P t i off z false] (hx : Opd env x (.agg l.toArray)) (hv : l[off]? = some v) : OpEv P T ⟨dst, .field t x i, ty, pos, after, gd⟩ env n g v n .nil := by
  obtain ⟨fs, f, d, by_, zv, h1, h2, h3, h4, h5, h6⟩ := s.out
  exact op_field h1 h2 h4 hx.ev h5 (by rw [h3]; simpa using hv)
theorem o_fieldAgg {t : TypeId} {x : Operand} {i off z : Nat} {l m : List Value} [s : Fc P t i off z true] (hx : Opd env x (.agg l.toArray)) (hv : (l.drop off).take z = m) : OpEv P T ⟨dst, .field t x i, ty, pos, after, gd⟩ env n g (.agg m.toArray) n .nil := by
  obtain ⟨fs, f, d, by_, zv, h1, h2, h3, h4, h5, h6⟩ := s.out
  have := op_fieldAgg (P := P) (T := T) (n := n) (g := g) (dst := dst) (ty := ty) (pos := pos) (after := after) (gd := gd) h1 h2 h4 hx.ev h5
  rw [h3] at this
  have e : l.toArray.extract off (off + z) = m.toArray := by
    rw [← hv]; simp [List.extract_toArray, List.extract_eq_take_drop]
  rw [e] at this; exact this
theorem o_fieldAddrC {s : TypeId} {x : Operand} {i b o off z : Nat} {ag : Bool} [q : Fc P s i off z ag] (hx : Opd env x (.pointer (some ⟨b, o, none⟩))) :
    OpEv P T ⟨dst, .fieldAddr s x i, ty, pos, after, gd⟩ env n g (.pointer (some ⟨b, o + off, none⟩)) n .nil := by
  obtain ⟨fs, f, d, by_, zv, h1, h2, h3, h4, h5, h6⟩ := q.out
  exact o_fieldAddr hx ⟨fs, f, d, z, by_, zv, h1, h2, h3, h4, h6⟩
theorem o_indexU {t e : TypeId} {x y : Operand} {a : Option Addr} {m : Nat} {k : IntKind} {i : Int} {d : TypeDesc} {z by_ : Nat} {zv : Value} [hu : Uc P t (.slice e)] [hz : Tc P e d z by_ zv] (hx : Opd env x (.slice a m m)) (hy : Opd env y (.int k i)) (hA : SlA a m)
    (h0 : 0 ≤ i) (hi : i < m) : OpEv P T ⟨dst, .indexAddr t x y, ty, pos, after, gd⟩ env n g (.pointer (some ⟨sb a, so a + i.toNat * z, none⟩)) n .nil := by
  have hx' := hx
  rw [hA.eq (by omega)] at hx'
  exact o_index hx' hy hu.out hz.out h0 hi
theorem o_indexU1 {t e : TypeId} {x y : Operand} {a : Option Addr} {m : Nat} {k : IntKind} {i : Int} {d : TypeDesc} {by_ : Nat} {zv : Value} [hu : Uc P t (.slice e)] [hz : Tc P e d 1 by_ zv] (hx : Opd env x (.slice a m m)) (hy : Opd env y (.int k i)) (hA : SlA a m)
    (h0 : 0 ≤ i) (hi : i < m) : OpEv P T ⟨dst, .indexAddr t x y, ty, pos, after, gd⟩ env n g (.pointer (some ⟨sb a, so a + i.toNat, none⟩)) n .nil := by
  have := o_indexU (P := P) (T := T) (n := n) (g := g) (dst := dst) (ty := ty) (pos := pos) (after := after) (gd := gd) (t := t) hx hy hA h0 hi
  rwa [Nat.mul_one] at this
/-- Cutting: nil or not. -/
theorem o_sliceU {t e : TypeId} {x : Operand} {lo hi : Option Operand} {a : Option Addr} {m : Nat} {l u : Nat} {d : TypeDesc} {z by_ : Nat} {zv : Value} {f : Nat → Value} {n0 : Nat} {h0 : AH} [hu : Uc P t (.slice e)] [hz : Tc P e d z by_ zv] (hx : Opd env x (.slice a m m))
    (hS : SlR h0 n0 a z m f) (hE : Ext n0 h0 g) (hlo : bound env lo 0 l) (hhi : bound env hi m u) (hlh : l ≤ u) (hhm : u ≤ m) :
    OpEv P T ⟨dst, .slice t x lo hi none, ty, pos, after, gd⟩ env n g (.slice (sub a (l * z)) (u - l) (u - l)) n .nil := by
  rcases hS.shape with ⟨k1, k2⟩ | ⟨k1, k2, mm, k3, k4⟩
  · subst k1 k2
    obtain rfl : u = 0 := by omega
    obtain rfl : l = 0 := by omega
    have := op_sliceNil (P := P) (T := T) (n := n) (g := g) (dst := dst) (ty := ty) (pos := pos) (after := after) (gd := gd) hu.out hz.out hx.ev hlo hhi
    simpa [sub] using this
  · have hx' := hx
    rw [k1] at hx'
    have := o_slice (P := P) (T := T) (n := n) (g := g) (dst := dst) (ty := ty) (pos := pos) (after := after) (gd := gd) hx' hu.out hz.out hlo hhi hlh hhm (by rw [hE.info _ k2]; exact k3) (.inr k4)
    have e : sub a (l * z) = some ⟨sb a, so a + l * z, none⟩ := by rw [k1]; rfl
    rw [e]; exact this

/-! Whole numbers. -/
theorem bv_and (w : Nat) {a b : Int} (ha : 0 ≤ a) (hb : 0 ≤ b) (ha2 : a < 2 ^ w) (hb2 : b < 2 ^ w) : (BitVec.ofInt w a &&& BitVec.ofInt w b).toNat = a.toNat &&& b.toNat := by
  obtain ⟨x, rfl⟩ := Int.eq_ofNat_of_zero_le ha
  obtain ⟨y, rfl⟩ := Int.eq_ofNat_of_zero_le hb
  have hx : x < 2 ^ w := by exact_mod_cast ha2
  have hy : y < 2 ^ w := by exact_mod_cast hb2
  simp [BitVec.toNat_and, BitVec.ofInt_natCast, Nat.mod_eq_of_lt hx, Nat.mod_eq_of_lt hy]
theorem bv_or (w : Nat) {a b : Int} (ha : 0 ≤ a) (hb : 0 ≤ b) (ha2 : a < 2 ^ w) (hb2 : b < 2 ^ w) : (BitVec.ofInt w a ||| BitVec.ofInt w b).toNat = a.toNat ||| b.toNat := by
  obtain ⟨x, rfl⟩ := Int.eq_ofNat_of_zero_le ha
  obtain ⟨y, rfl⟩ := Int.eq_ofNat_of_zero_le hb
  have hx : x < 2 ^ w := by exact_mod_cast ha2
  have hy : y < 2 ^ w := by exact_mod_cast hb2
  simp [BitVec.toNat_or, BitVec.ofInt_natCast, Nat.mod_eq_of_lt hx, Nat.mod_eq_of_lt hy]
theorem bv_xor (w : Nat) {a b : Int} (ha : 0 ≤ a) (hb : 0 ≤ b) (ha2 : a < 2 ^ w) (hb2 : b < 2 ^ w) : (BitVec.ofInt w a ^^^ BitVec.ofInt w b).toNat = a.toNat ^^^ b.toNat := by
  obtain ⟨x, rfl⟩ := Int.eq_ofNat_of_zero_le ha
  obtain ⟨y, rfl⟩ := Int.eq_ofNat_of_zero_le hb
  have hx : x < 2 ^ w := by exact_mod_cast ha2
  have hy : y < 2 ^ w := by exact_mod_cast hb2
  simp [BitVec.toNat_xor, BitVec.ofInt_natCast, Nat.mod_eq_of_lt hx, Nat.mod_eq_of_lt hy]
theorem bv_andNot (w : Nat) {a b : Int} (ha : 0 ≤ a) (hb : 0 ≤ b) (ha2 : a < 2 ^ w) (hb2 : b < 2 ^ w) : (BitVec.ofInt w a &&& ~~~BitVec.ofInt w b).toNat = a.toNat &&& (2 ^ w - 1 - b.toNat) := by
  obtain ⟨x, rfl⟩ := Int.eq_ofNat_of_zero_le ha
  obtain ⟨y, rfl⟩ := Int.eq_ofNat_of_zero_le hb
  have hx : x < 2 ^ w := by exact_mod_cast ha2
  have hy : y < 2 ^ w := by exact_mod_cast hb2
  simp [BitVec.toNat_and, BitVec.toNat_not, BitVec.ofInt_natCast, Nat.mod_eq_of_lt hx, Nat.mod_eq_of_lt hy]

theorem wrap_id {k : IntKind} {a : Int} (h0 : 0 ≤ a) (h1 : a < 2 ^ (k.bits - 1)) : k.wrap a = a := by
  cases k <;> simp [IntKind.wrap, IntKind.signed, IntKind.bits] at * <;> omega
theorem wrapU {k : IntKind} {a : Int} (hk : k.signed = false) (h0 : 0 ≤ a) (h1 : a < 2 ^ k.bits) : k.wrap a = a := by
  cases k <;> simp [IntKind.wrap, IntKind.signed, IntKind.bits] at * <;> omega
end
end Go.Abs
