/- Contracts and laws that a statement of this seat is proved by (part 3). -/
import Derived.Test.YtfbddbpbifnhfaaGreatDoorC02
import Derived.KernelRfl
import Derived.Laws.Sem
import Derived.Test.YtfbddbpbifnhfaaGreatDoorProg
import Derived.OpenShut
import Derived.Carry
import Derived.Laws.StructEq
set_option linter.unusedSimpArgs false
set_option linter.unusedVariables false
/- Stepping through code without a word: each kind of operation's laws, tried one behind the other (written by gen_go.py). -/
namespace Go.Abs
open Go.RowKit

theorem SlR.atc {h h' : AH} {n b o z m j : Nat} {f : Nat → Value} (s : SlR h n (some ⟨b, o, none⟩) z m f) (e : Ext n h h') (hj : j < m * z) : h'.cell b (o + j) = f j := s.at e hj
theorem RL.gen {P : Program} {T : Nat → Prop} {N : Nat} {c : Code} {env : Env} {n : Nat} {h : AH} {Q : Exit → Env → Nat → AH → Prop} (F : AH → Prop) (hF : F h) (k : ∀ h, F h → RL P T N c env n h Q) : RL P T N c env n h Q := k h hF
theorem RC.gen {P : Program} {T : Nat → Prop} {N : Nat} {c : Code} {env : Env} {n : Nat} {h : AH} {Q : Exit → Env → Nat → AH → Prop} (F : AH → Prop) (hF : F h) (k : ∀ h, F h → RC P T N c env n h Q) : RC P T N c env n h Q := k h hF
theorem Ext.via {n n1 : Nat} {h h1 h2 : AH} (b : Ext n1 h1 h2) (hn : n ≤ n1) (a : Ext n h h1) : Ext n h h2 := a.trans hn b
theorem bound.lo0 {env : Env} : bound env Option.none 0 ((0 : Nat) : Int) := rfl
theorem bound.hiN {env : Env} {m : Nat} : bound env Option.none (m : Int) ((m : Nat) : Int) := rfl
theorem bound.someT {env : Env} {y : Operand} {dflt v : Int} {k : IntKind} (h : Opd env y (.int k v)) (h0 : 0 ≤ v) : bound env (Option.some y) dflt v.toNat := ⟨k, by rw [Int.toNat_of_nonneg h0]; exact h.ev⟩
def SlI (h : AH) (a : Option Addr) (z m : Nat) : Prop := (a = none ∧ m = 0) ∨ (a = some ⟨sb a, so a, none⟩ ∧ ∃ mm, h.info (sb a) = some mm ∧ mm.sz = z)
theorem SlI.of {n : Nat} {h0 h : AH} {a : Option Addr} {z m : Nat} {f : Nat → Value} (S : SlR h0 n a z m f) (E : Ext n h0 h) : SlI h a z m := by
  rcases S.shape with k | ⟨k1, k2, mm, k3, k4⟩
  · exact .inl k
  · exact .inr ⟨k1, mm, by rw [E.info _ k2]; exact k3, k4⟩
theorem SlI.only {h : AH} {a : Option Addr} {z m : Nat} (S : SlI h a z m) : SlI (h.only (sb a)) a z m := by
  rcases S with k | ⟨k1, mm, k3, k4⟩
  · exact .inl k
  · exact .inr ⟨k1, mm, i_only k3, k4⟩

structure Shp (h : AH) (n : Nat) (a : Option Addr) (z m : Nat) : Prop where
  out : (a = none ∧ m = 0) ∨ (a = some ⟨sb a, so a, none⟩ ∧ sb a < n ∧ ∃ mm, h.info (sb a) = some mm ∧ mm.sz = z)
theorem Shp.ext {n n' : Nat} {h h' : AH} {a : Option Addr} {z m : Nat} (S : Shp h n a z m) (E : Ext n h h') (hn : n ≤ n') : Shp h' n' a z m := by
  rcases S.out with k | ⟨k1, k2, mm, k3, k4⟩
  · exact ⟨.inl k⟩
  · exact ⟨.inr ⟨k1, by omega, mm, by rw [E.info _ k2]; exact k3, k4⟩⟩
theorem Shp.sla {n : Nat} {h : AH} {a : Option Addr} {z m : Nat} (S : Shp h n a z m) : SlA a m := by
  rcases S.out with k | ⟨k1, _⟩
  · exact .inl k
  · exact .inr k1
theorem Shp.of {n : Nat} {h : AH} {a : Option Addr} {z m : Nat} {f : Nat → Value} (S : SlR h n a z m f) : Shp h n a z m := ⟨S.shape⟩
theorem Shp.lt {n : Nat} {h : AH} {a : Option Addr} {z m : Nat} (S : Shp h n a z m) (hm : 0 < m) : sb a < n := by
  rcases S.out with ⟨_, k⟩ | ⟨_, k, _⟩
  · omega
  · exact k
theorem Shp.sub {n : Nat} {h : AH} {a : Option Addr} {z m l u : Nat} (S : Shp h n a z m) (hl : l ≤ u) (hu : u ≤ m) : Shp h n (Abs.sub a (l * z)) z (u - l) := by
  rcases S.out with ⟨k1, k2⟩ | ⟨k1, k2⟩
  · subst k1; exact ⟨.inl ⟨rfl, by omega⟩⟩
  · refine ⟨.inr ⟨?_, ?_⟩⟩
    · rw [k1]; rfl
    · rw [k1] at k2 ⊢; exact k2
theorem SlI.ofS {n : Nat} {h0 h : AH} {a : Option Addr} {z m : Nat} (S : Shp h0 n a z m) (E : Ext n h0 h) : SlI h a z m := by
  rcases S.out with k | ⟨k1, k2, mm, k3, k4⟩
  · exact .inl k
  · exact .inr ⟨k1, mm, by rw [E.info _ k2]; exact k3, k4⟩
def ExtX (n : Nat) (a : Option Addr) (h h1 : AH) : Prop := ∀ x, x < n → (a = none ∨ x ≠ sb a) → h1.info x = h.info x ∧ ∀ i, h1.cell x i = h.cell x i
section
variable {h h1 : AH} {n : Nat} {a : Option Addr}
theorem ExtX.refl : ExtX n a h h := fun _ _ _ => ⟨rfl, fun _ => rfl⟩
theorem ExtX.sets {h2 : AH} {o' : Nat} {vs : List Value} (e : ExtX n a h h2) (ha : a = none → False) : ExtX n a h (h2.app (.sets (sb a) o' vs)) := fun x hx hne => by
  have h1 := e x hx hne
  have hx : x ≠ sb a := hne.resolve_left ha
  exact ⟨(sets_info _ _ _ _ _).trans h1.1, fun i => by rw [← h1.2 i]; simp [AH.app, Dl.sets, hx]⟩
theorem ExtX.to {m : Nat} {h0 : AH} (e : ExtX n a h h1) (f : Ext m h0 h) (hm : m ≤ n) (ha : ∀ x, x < m → a = none ∨ x ≠ sb a) : Ext m h0 h1 :=
  ⟨fun x hx => ((e x (by omega) (ha x hx)).1).trans (f.info x hx), fun x i hx => ((e x (by omega) (ha x hx)).2 i).trans (f.cell x i hx)⟩
theorem c_extX {x i : Nat} {v : Value} (e : ExtX n a h h1) (hx : x < n) (hne : a = none ∨ x ≠ sb a) (k : h.cell x i = v) : h1.cell x i = v := ((e x hx hne).2 i).trans k
theorem i_extX {x : Nat} {v : Option Meta} (e : ExtX n a h h1) (hx : x < n) (hne : a = none ∨ x ≠ sb a) (k : h.info x = v) : h1.info x = v := ((e x hx hne).1).trans k
end

section
variable {P : Program} {T : Nat → Prop} {env : Env} {n n1 : Nat} {g h : AH} {ops : Array Oper} {os : List Oper} {Q : Env → Nat → AH → Prop} {ps : List Ft}
variable {dst : Option Tmp} {ty : TypeId} {pos : String} {after : Array Edge} {gd : Option (Nat × Bool)}

theorem o_fieldAddrN {s : TypeId} {x : Operand} {i b o o' off z : Nat} {ag : Bool} [q : Fc P s i off z ag] (hx : Opd env x (.pointer (some ⟨b, o, none⟩))) (e : o + off = o') :
    OpEv P T ⟨dst, .fieldAddr s x i, ty, pos, after, gd⟩ env n g (.pointer (some ⟨b, o', none⟩)) n .nil := by subst e; exact o_fieldAddrC hx
theorem o_arrayAddrN {t e : TypeId} {x y : Operand} {b o o' m : Nat} {k : IntKind} {i : Int} {d : TypeDesc} {z by_ : Nat} {zv : Value} [hu : Uc P t (.array m e)] [hz : Tc P e d z by_ zv] (hx : Opd env x (.pointer (some ⟨b, o, none⟩))) (hy : Opd env y (.int k i))
    (h0 : 0 ≤ i) (hi : i < m) (e1 : o + i.toNat * z = o') : OpEv P T ⟨dst, .indexAddr t x y, ty, pos, after, gd⟩ env n g (.pointer (some ⟨b, o', none⟩)) n .nil := by subst e1; exact o_arrayAddr hx hy hu.out hz.out h0 hi
theorem o_eqbT {t t' : TypeId} {x y : Operand} {a : Bool} (hu : P.underlying t = some .bool) (hx : Opd env x (.bool a)) (hy : Opd env y (.bool a)) :
    OpEv P T ⟨dst, .binOp .eql t x y t', ty, pos, after, gd⟩ env n g (.bool true) n .nil := by
  have := o_eqb (P := P) (T := T) (n := n) (g := g) (dst := dst) (ty := ty) (pos := pos) (after := after) (gd := gd) (t' := t') hu hx hy
  rwa [beq_self_eq_true] at this
theorem o_neg64 {t : TypeId} {x : Operand} {a : Int} (hx : Opd env x (.int .i64 a)) (h0 : -9223372036854775808 < a) (h1 : a < 9223372036854775808) :
    OpEv P T ⟨dst, .unOp .neg t x, ty, pos, after, gd⟩ env n g (.int .i64 (-a)) n .nil := by
  have := o_neg (P := P) (T := T) (n := n) (g := g) (dst := dst) (ty := ty) (pos := pos) (after := after) (gd := gd) (t := t) hx
  rwa [wrap64 (by omega) (by omega), Int.zero_sub] at this
theorem u8lt {x : UInt8} : ((x.toNat : Nat) : Int) < 256 := by have := x.toNat_lt; omega
theorem o_nebT {t t' : TypeId} {x y : Operand} {a : Bool} (hu : P.underlying t = some .bool) (hx : Opd env x (.bool a)) (hy : Opd env y (.bool a)) :
    OpEv P T ⟨dst, .binOp .neq t x y t', ty, pos, after, gd⟩ env n g (.bool false) n .nil := by
  have := o_neb (P := P) (T := T) (n := n) (g := g) (dst := dst) (ty := ty) (pos := pos) (after := after) (gd := gd) (t' := t') hu hx hy
  rwa [beq_self_eq_true, Bool.not_true] at this
theorem SlR.ltp {h : AH} {n n' : Nat} {a : Option Addr} {z m : Nat} {f : Nat → Value} (s : SlR h n a z m f) (h0 : 0 < n) (hn : n ≤ n') : sb a < n' := by
  rcases s.shape with ⟨k, _⟩ | ⟨_, k, _⟩
  · subst k; show 0 < n'; omega
  · omega
theorem SlR.ltn {h : AH} {n n' : Nat} {a : Option Addr} {z m : Nat} {f : Nat → Value} (s : SlR h n a z m f) (hm : 0 < m) (hn : n ≤ n') : sb a < n' := Nat.lt_of_lt_of_le (s.lt hm) hn
theorem o_meth {nm : String} {x : Operand} {v : Value} (hx : Opd env x v) : OpEv P T ⟨dst, .makeFunc (.method nm) #[x] #[], ty, pos, after, gd⟩ env n g (.func (.method nm) #[v] #[]) n .nil := op_meth hx.ev
theorem o_nilCheckM {x : Operand} {nm : String} {t : TypeId} {v : Value} {f : FuncId} [hM : Mc P t nm f] (hx : Opd env x (.func (.method nm) #[.iface t v] #[])) :
    OpEv P T ⟨dst, .nilCheck x, ty, pos, after, gd⟩ env n g (.func (.method nm) #[.iface t v] #[]) n .nil := op_nilCheckM hx.ev
theorem o_sliceI {t e : TypeId} {x : Operand} {lo hi : Option Operand} {a : Option Addr} {m : Nat} {l u : Nat} {d : TypeDesc} {z by_ : Nat} {zv : Value} [hu : Uc P t (.slice e)] [hz : Tc P e d z by_ zv] (hx : Opd env x (.slice a m m))
    (hS : SlI g a z m) (hlo : bound env lo 0 l) (hhi : bound env hi m u) (hlh : l ≤ u) (hhm : u ≤ m) :
    OpEv P T ⟨dst, .slice t x lo hi none, ty, pos, after, gd⟩ env n g (.slice (sub a (l * z)) (u - l) (u - l)) n .nil := by
  rcases hS with ⟨k1, k2⟩ | ⟨k1, mm, k3, k4⟩
  · subst k1 k2
    obtain rfl : u = 0 := by omega
    obtain rfl : l = 0 := by omega
    have := op_sliceNil (P := P) (T := T) (n := n) (g := g) (dst := dst) (ty := ty) (pos := pos) (after := after) (gd := gd) hu.out hz.out hx.ev hlo hhi
    simpa [sub] using this
  · have hx' := hx
    rw [k1] at hx'
    have := o_slice (P := P) (T := T) (n := n) (g := g) (dst := dst) (ty := ty) (pos := pos) (after := after) (gd := gd) hx' hu.out hz.out hlo hhi hlh hhm k3 (.inr k4)
    have e : sub a (l * z) = some ⟨sb a, so a + l * z, none⟩ := by rw [k1]; rfl
    rw [e]; exact this
theorem o_sliceI1 {t e : TypeId} {x : Operand} {lo hi : Option Operand} {a : Option Addr} {m : Nat} {l u : Nat} {d : TypeDesc} {by_ : Nat} {zv : Value} [hu : Uc P t (.slice e)] [hz : Tc P e d 1 by_ zv] (hx : Opd env x (.slice a m m))
    (hS : SlI g a 1 m) (hlo : bound env lo 0 l) (hhi : bound env hi m u) (hlh : l ≤ u) (hhm : u ≤ m) :
    OpEv P T ⟨dst, .slice t x lo hi none, ty, pos, after, gd⟩ env n g (.slice (sub a l) (u - l) (u - l)) n .nil := by
  have := o_sliceI (P := P) (T := T) (n := n) (g := g) (dst := dst) (ty := ty) (pos := pos) (after := after) (gd := gd) (t := t) hx hS hlo hhi hlh hhm
  rwa [Nat.mul_one] at this
theorem o_sliceT {t e : TypeId} {x : Operand} {hi : Option Operand} {a : Option Addr} {m : Nat} {u : Nat} {d : TypeDesc} {z by_ : Nat} {zv : Value} [hu : Uc P t (.slice e)] [hz : Tc P e d z by_ zv] (hx : Opd env x (.slice a m m))
    (hS : SlI g a z m) (hhi : bound env hi m u) (hhm : u ≤ m) :
    OpEv P T ⟨dst, .slice t x none hi none, ty, pos, after, gd⟩ env n g (.slice a u u) n .nil := by
  have := o_sliceI (P := P) (T := T) (n := n) (g := g) (dst := dst) (ty := ty) (pos := pos) (after := after) (gd := gd) (t := t) hx hS bound.lo0 hhi (Nat.zero_le _) hhm
  have e : sub a (0 * z) = a := by
    rw [Nat.zero_mul]
    rcases hS with ⟨k1, _⟩ | ⟨k1, _⟩
    · subst k1; rfl
    · rw [k1]; rfl
  rw [e, Nat.sub_zero] at this; exact this
theorem o_b2sR {s t e : TypeId} {x : Operand} {a : Option Addr} {m : Nat} {l : List UInt8} [hs : Uc P s (.slice e)] [he : Uc P e (.int .u8)] [ht : Uc P t .string] (hx : Opd env x (.slice a m m)) (hA : SlA a m) (hr : rd g (sb a) (so a) m = bytesV l) :
    OpEv P T ⟨dst, .convert s t x, ty, pos, after, gd⟩ env n g (.string ⟨l.toArray⟩) n .nil := by
  rcases hA with ⟨k1, k2⟩ | k1
  · subst k1; subst k2
    have : l = [] := by cases l with | nil => rfl | cons => simp [rd, bytesV] at hr
    subst this
    exact op_b2sNil hs.out he.out ht.out hx.ev
  · have hx' := hx.ev
    rw [k1] at hx'
    exact op_b2s hs.out he.out ht.out hx' hr

theorem not_W {A B : Prop} (h1 : ¬ A) (h2 : ¬ B) : ¬ (A ∨ B) := fun q => q.elim h1 h2
theorem cfl {k b j : Nat} (q : CF ops k (· = b) none' j ps := by ((repeat (first | exact CF.nil | refine CF.ld (by first | (simp only [Ft.no, none', false_or, not_false_eq_true]; (first | done | fail)) | (apply not_W; assumption; dsimp only; omega) | (simp only [Ft.no, none', false_or, not_false_eq_true]; omega)) ?_ | refine CF.wait (by kernel_rfl) ?_)); (first | done | fail))) : CF ops k (· = b) none' j ps := q
theorem cfs {k b j : Nat} (q : CF ops k (· = b) (· = b) j ps := by ((repeat (first | exact CF.nil | refine CF.st (by first | (simp only [Ft.no, none', false_or, not_false_eq_true]; (first | done | fail)) | (apply not_W; assumption; dsimp only; omega) | (simp only [Ft.no, none', false_or, not_false_eq_true]; omega)) (by first | (simp only [Ft.no, none', false_or, not_false_eq_true]; (first | done | fail)) | (apply not_W; assumption; dsimp only; omega) | (simp only [Ft.no, none', false_or, not_false_eq_true]; omega)) ?_ | refine CF.wait (by kernel_rfl) ?_)); (first | done | fail))) : CF ops k (· = b) (· = b) j ps := q
theorem cfc {k nb j : Nat} (q : CF ops k (· < nb) none' j ps := by ((repeat (first | exact CF.nil | refine CF.cl (by intro b hb; first | (simp only [Ft.no, none', false_or, not_false_eq_true]; (first | done | fail)) | (simp only [Ft.no, none', false_or, not_false_eq_true]; omega)) ?_ | refine CF.wait (by kernel_rfl) ?_)); (first | done | fail))) : CF ops k (· < nb) none' j ps := q
theorem cfw {k nb j : Nat} {W : Nat → Prop} (q : CF ops k (· < nb) W j ps := by ((repeat (first | exact CF.nil | refine CF.clW (by first | assumption | (intro b hb; first | (simp only [Ft.no, none', false_or, not_false_eq_true]; (first | done | fail)) | (simp only [Ft.no, none', false_or, not_false_eq_true]; omega))) (by first | assumption | (intro b hb hw; first | exact hb | omega | (dsimp only at hb; omega) | (dsimp only at hw; omega) | (dsimp only at hb hw; omega) | (dsimp only at hb; subst hb; contradiction))) (by first | assumption | (intro b hb; first | omega | (dsimp only at hb; omega))) ?_ | refine CF.wait (by kernel_rfl) ?_)); (first | done | fail))) : CF ops k (· < nb) W j ps := q
theorem opd {x : Operand} {v : Value} (k : Opd env x v := by first | exact Opd.const rfl | (apply Opd.tmp; (repeat apply Look.there rfl); exact Look.here) | exact Opd.func) : Opd env x v := k
theorem opds {x : List Operand} {v : List Value} (k : Opds env x v := by ((repeat (first | exact Opds.nil | apply Opds.cons (by first | exact Opd.const rfl | (apply Opd.tmp; (repeat apply Look.there rfl); exact Look.here) | exact Opd.func))); (first | done | fail))) : Opds env x v := k
theorem ext {m : Nat} {h h' : AH} (k : Ext m h h' := by ((repeat (first | assumption | exact Ext.refl _ _ | (refine Ext.via (by assumption) (by omega) ?_) | apply Ext.appNew (by omega) | apply Ext.appSets (by omega) | apply Ext.appTake (by omega) (by omega) | apply Ext.below (by omega) | apply Ext.appObj (by omega) | (refine Ext.viaW (by assumption) (by omega) (by intro x hx; first | omega | (dsimp only at hx; omega)) ?_))); (first | done | fail))) : Ext m h h' := k
theorem extW {W : Nat → Prop} {m : Nat} {h h' : AH} (k : ExtW W m h h' := by ((repeat (first | assumption | exact ExtW.refl _ _ _ | (refine ExtW.viaE (by assumption) (by omega) ?_) | (refine ExtW.via (by assumption) (by omega) (by intro x hx hw; first | exact hw | (dsimp only at hw ⊢; omega) | (dsimp only at hw; omega)) ?_) | apply ExtW.appNew (by omega) | apply ExtW.appSets (by first | exact Or.inr (by omega) | exact Or.inl (by assumption) | exact Or.inl (by first | omega | (dsimp only; omega))) | apply ExtW.appObj (by first | exact Or.inr (by omega) | exact Or.inl (by assumption) | exact Or.inl (by first | omega | (dsimp only; omega))) | apply ExtW.appTake (by first | exact Or.inr (by omega) | exact Or.inl (by assumption) | exact Or.inl (by first | omega | (dsimp only; omega))) (by omega) | apply ExtW.below (by omega))); (first | done | fail))) : ExtW W m h h' := k
theorem cell {h : AH} {b i : Nat} {v : Value} (k : h.cell b i = v := by ((repeat (first | assumption | exact c_new (by rfl) | exact c_in (by omega) (by rfl) | (apply SlR.at; assumption; (focus ((repeat (first | assumption | exact Ext.refl _ _ | (refine Ext.via (by assumption) (by omega) ?_) | apply Ext.appNew (by omega) | apply Ext.appSets (by omega) | apply Ext.appTake (by omega) (by omega) | apply Ext.below (by omega) | apply Ext.appObj (by omega) | (refine Ext.viaW (by assumption) (by omega) (by intro x hx; first | omega | (dsimp only at hx; omega)) ?_))); (first | done | fail))); omega) | (apply SlR.atc; assumption; (focus ((repeat (first | assumption | exact Ext.refl _ _ | (refine Ext.via (by assumption) (by omega) ?_) | apply Ext.appNew (by omega) | apply Ext.appSets (by omega) | apply Ext.appTake (by omega) (by omega) | apply Ext.below (by omega) | apply Ext.appObj (by omega) | (refine Ext.viaW (by assumption) (by omega) (by intro x hx; first | omega | (dsimp only at hx; omega)) ?_))); (first | done | fail))); omega) | apply c_new_ne (by omega) | apply c_ext (by assumption) (by omega) | apply c_extX (by assumption) (by omega) (by first | assumption | omega | exact Or.inl rfl | (right; simp only [sb, Option.map_some, Option.getD_some]; omega)) | apply c_obj | apply c_extW (by assumption) (by omega) (by first | assumption | omega | (dsimp only; omega) | (intro hx; dsimp only at hx; omega)) | apply c_out (by simp only [List.length_cons, List.length_nil]; omega) | apply c_only | apply c_below (by omega) | exact c_take (by rfl) | apply c_take_ne (by omega) (by omega))); (first | done | fail))) : h.cell b i = v := k
theorem info {h : AH} {b : Nat} {v : Option Meta} (k : h.info b = v := by ((repeat (first | assumption | exact i_new | exact i_take | apply i_ext (by assumption) (by omega) | apply i_extX (by assumption) (by omega) (by first | assumption | omega | exact Or.inl rfl | (right; simp only [sb, Option.map_some, Option.getD_some]; omega)) | apply i_new_ne (by omega) | apply i_sets | apply i_only | apply i_below (by omega) | apply i_take_ne (by omega) (by omega) | exact i_obj | apply i_obj_ne (by omega) | apply i_extW (by assumption) (by omega) (by first | assumption | omega | (dsimp only; omega) | (intro hx; dsimp only at hx; omega)))); (first | done | fail))) : h.info b = v := k
theorem envs {e : Env} (k : Envs env e := by ((repeat (first | exact Envs.nil | apply Envs.cons (by (repeat apply Look.there rfl); exact Look.here))); (first | done | fail))) : Envs env e := k
theorem rv {r : ResultVar} {v : Value} (k : RV P env h r v := by first | (apply RV.tmp; (repeat apply Look.there rfl); exact Look.here) | (apply RV.cell; ((repeat apply Look.there rfl); exact Look.here); exact Tc.out; rfl; (focus ((repeat (first | assumption | exact c_new (by rfl) | exact c_in (by omega) (by rfl) | (apply SlR.at; assumption; (focus ((repeat (first | assumption | exact Ext.refl _ _ | (refine Ext.via (by assumption) (by omega) ?_) | apply Ext.appNew (by omega) | apply Ext.appSets (by omega) | apply Ext.appTake (by omega) (by omega) | apply Ext.below (by omega) | apply Ext.appObj (by omega) | (refine Ext.viaW (by assumption) (by omega) (by intro x hx; first | omega | (dsimp only at hx; omega)) ?_))); (first | done | fail))); omega) | (apply SlR.atc; assumption; (focus ((repeat (first | assumption | exact Ext.refl _ _ | (refine Ext.via (by assumption) (by omega) ?_) | apply Ext.appNew (by omega) | apply Ext.appSets (by omega) | apply Ext.appTake (by omega) (by omega) | apply Ext.below (by omega) | apply Ext.appObj (by omega) | (refine Ext.viaW (by assumption) (by omega) (by intro x hx; first | omega | (dsimp only at hx; omega)) ?_))); (first | done | fail))); omega) | apply c_new_ne (by omega) | apply c_ext (by assumption) (by omega) | apply c_extX (by assumption) (by omega) (by first | assumption | omega | exact Or.inl rfl | (right; simp only [sb, Option.map_some, Option.getD_some]; omega)) | apply c_obj | apply c_extW (by assumption) (by omega) (by first | assumption | omega | (dsimp only; omega) | (intro hx; dsimp only at hx; omega)) | apply c_out (by simp only [List.length_cons, List.length_nil]; omega) | apply c_only | apply c_below (by omega) | exact c_take (by rfl) | apply c_take_ne (by omega) (by omega))); (first | done | fail))); (intro h; cases h)) | (apply RV.agg; ((repeat apply Look.there rfl); exact Look.here); exact Tc.out; rfl; (focus ((repeat (first | exact rd_nil | apply r_only | apply rd_cons (by ((repeat (first | assumption | exact c_new (by rfl) | exact c_in (by omega) (by rfl) | (apply SlR.at; assumption; (focus ((repeat (first | assumption | exact Ext.refl _ _ | (refine Ext.via (by assumption) (by omega) ?_) | apply Ext.appNew (by omega) | apply Ext.appSets (by omega) | apply Ext.appTake (by omega) (by omega) | apply Ext.below (by omega) | apply Ext.appObj (by omega) | (refine Ext.viaW (by assumption) (by omega) (by intro x hx; first | omega | (dsimp only at hx; omega)) ?_))); (first | done | fail))); omega) | (apply SlR.atc; assumption; (focus ((repeat (first | assumption | exact Ext.refl _ _ | (refine Ext.via (by assumption) (by omega) ?_) | apply Ext.appNew (by omega) | apply Ext.appSets (by omega) | apply Ext.appTake (by omega) (by omega) | apply Ext.below (by omega) | apply Ext.appObj (by omega) | (refine Ext.viaW (by assumption) (by omega) (by intro x hx; first | omega | (dsimp only at hx; omega)) ?_))); (first | done | fail))); omega) | apply c_new_ne (by omega) | apply c_ext (by assumption) (by omega) | apply c_extX (by assumption) (by omega) (by first | assumption | omega | exact Or.inl rfl | (right; simp only [sb, Option.map_some, Option.getD_some]; omega)) | apply c_obj | apply c_extW (by assumption) (by omega) (by first | assumption | omega | (dsimp only; omega) | (intro hx; dsimp only at hx; omega)) | apply c_out (by simp only [List.length_cons, List.length_nil]; omega) | apply c_only | apply c_below (by omega) | exact c_take (by rfl) | apply c_take_ne (by omega) (by omega))); (first | done | fail))))); (first | done | fail))); rfl)) : RV P env h r v := k

structure Stp (G N : Prop) : Prop where
  imp : N → G
structure Stp2 (G N N2 : Prop) : Prop where
  imp : N → N2 → G
theorem gS_any {N : Prop} (k : Stp (RS P T ops os env n h Q) N) : Stp (RS P T ops os env n h Q) N := k
theorem gD_any {N : Prop} (k : Stp (RD P T ops ps os env n h Q) N) : Stp (RD P T ops ps os env n h Q) N := k
theorem hS_any {N N2 : Prop} (k : Stp2 (RS P T ops os env n h Q) N N2) : Stp2 (RS P T ops os env n h Q) N N2 := k
theorem hD_any {N N2 : Prop} (k : Stp2 (RD P T ops ps os env n h Q) N N2) : Stp2 (RD P T ops ps os env n h Q) N N2 := k
theorem gE_any {fn : Func} {Q : Value → Nat → AH → Prop} {e : Exit} {N : Prop} (k : Stp (endC P fn Q e env n h) N) : Stp (endC P fn Q e env n h) N := k
theorem gA_any {W : Nat → Prop} {b N2 : Nat} {A : ALoop} {body : Code} {Q : Value → Nat → AH → Prop} {e : Exit} {N : Prop} (k : Stp (assignC P W b A N2 body Q e env n h) N) : Stp (assignC P W b A N2 body Q e env n h) N := k
theorem gR_any {b : Nat} {A : ALoop} {Q : Value → Nat → AH → Prop} {e : Exit} {N : Prop} (k : Stp (roundC b A Q e n h) N) : Stp (roundC b A Q e n h) N := k
theorem gC_draw {N' id : Nat} {ox : Array Oper} {Q : Exit → Env → Nat → AH → Prop} {N : Prop} (k : Stp (RC P T N' (.region id ox true) env n h Q) N) : Stp (RC P T N' (.region id ox true) env n h Q) N := k
theorem gC_cond {N' : Nat} {c : Operand} {x y : Code} {Q : Exit → Env → Nat → AH → Prop} {N : Prop} (k : Stp (RC P T N' (.cond c x y) env n h Q) N) : Stp (RC P T N' (.cond c x y) env n h Q) N := k
theorem St.put {o : Oper} {d : Tmp} {v : Value} (ho : OpEv P T o env n h v n .nil) (hw : wants ops o env = some true) (hd : o.dst = some d) : Stp (RS P T ops (o :: os) env n h Q) (RS P T ops os ((d, v) :: env) n h Q) := ⟨RS.put hw hd ho⟩
theorem St.decT {o : Oper} {d : Tmp} {p : Prop} [Decidable p] (ho : OpEv P T o env n h (.bool (decide p)) n .nil) (hw : wants ops o env = some true) (hd : o.dst = some d) (hp : p) : Stp (RS P T ops (o :: os) env n h Q) (RS P T ops os ((d, .bool true) :: env) n h Q) := ⟨RS.decT hw hd ho hp⟩
theorem St.decF {o : Oper} {d : Tmp} {p : Prop} [Decidable p] (ho : OpEv P T o env n h (.bool (decide p)) n .nil) (hw : wants ops o env = some true) (hd : o.dst = some d) (hp : ¬ p) : Stp (RS P T ops (o :: os) env n h Q) (RS P T ops os ((d, .bool false) :: env) n h Q) := ⟨RS.decF hw hd ho hp⟩
theorem St.dec {o : Oper} {d : Tmp} {p : Prop} [Decidable p] (ho : OpEv P T o env n h (.bool (decide p)) n .nil) (hw : wants ops o env = some true) (hd : o.dst = some d) : Stp2 (RS P T ops (o :: os) env n h Q) (p → RS P T ops os ((d, .bool true) :: env) n h Q) (¬ p → RS P T ops os ((d, .bool false) :: env) n h Q) := ⟨RS.dec hw hd ho⟩
theorem St.mem {o : Oper} {d : Tmp} {v : Value} {dl : Dl} (ho : OpEv P T o env n h v n1 dl) (hw : wants ops o env = some true) (hd : o.dst = some d) : Stp (RS P T ops (o :: os) env n h Q) (RS P T ops os ((d, v) :: env) n1 (h.app dl) Q) := ⟨RS.mem hw hd ho⟩
theorem St.mem0 {o : Oper} {v : Value} {dl : Dl} (ho : OpEv P T o env n h v n1 dl) (hw : wants ops o env = some true) (hd : o.dst = none) : Stp (RS P T ops (o :: os) env n h Q) (RS P T ops os env n1 (h.app dl) Q) := ⟨RS.mem0 hw hd ho⟩
theorem St.omit {o : Oper} {d : Tmp} (hw : wants ops o env = some false) (hd : o.dst = some d) : Stp (RS P T ops (o :: os) env n h Q) (RS P T ops os ((d, skipV) :: env) n h Q) := ⟨RS.omit hw hd⟩
theorem St.omit0 {o : Oper} (hw : wants ops o env = some false) (hd : o.dst = none) : Stp (RS P T ops (o :: os) env n h Q) (RS P T ops os env n h Q) := ⟨RS.omit0 hw hd⟩
theorem Sd.put {o : Oper} {d : Tmp} {v : Value} (ho : OpEv P T o env n .empty v n .nil) (hw : wants ops o env = some true) (hd : o.dst = some d) : Stp (RD P T ops ps (o :: os) env n h Q) (RD P T ops (.no n n :: ps) os ((d, v) :: env) n h Q) := ⟨RD.put hw hd ho⟩
theorem Sd.decT {o : Oper} {d : Tmp} {p : Prop} [Decidable p] (ho : OpEv P T o env n .empty (.bool (decide p)) n .nil) (hw : wants ops o env = some true) (hd : o.dst = some d) (hp : p) : Stp (RD P T ops ps (o :: os) env n h Q) (RD P T ops (.no n n :: ps) os ((d, .bool true) :: env) n h Q) := ⟨RD.decT hw hd ho hp⟩
theorem Sd.decF {o : Oper} {d : Tmp} {p : Prop} [Decidable p] (ho : OpEv P T o env n .empty (.bool (decide p)) n .nil) (hw : wants ops o env = some true) (hd : o.dst = some d) (hp : ¬ p) : Stp (RD P T ops ps (o :: os) env n h Q) (RD P T ops (.no n n :: ps) os ((d, .bool false) :: env) n h Q) := ⟨RD.decF hw hd ho hp⟩
theorem Sd.dec {o : Oper} {d : Tmp} {p : Prop} [Decidable p] (ho : OpEv P T o env n .empty (.bool (decide p)) n .nil) (hw : wants ops o env = some true) (hd : o.dst = some d) : Stp2 (RD P T ops ps (o :: os) env n h Q) (p → RD P T ops (.no n n :: ps) os ((d, .bool true) :: env) n h Q) (¬ p → RD P T ops (.no n n :: ps) os ((d, .bool false) :: env) n h Q) := ⟨RD.dec hw hd ho⟩
theorem Sd.look {o : Oper} {d : Tmp} {v : Value} {b : Nat} (ho : OpEv P T o env n (h.only b) v n .nil) (hw : wants ops o env = some true) (hd : o.dst = some d) (hb : b < n) (hc : CF ops ps.length (· = b) none' ps.length ps) : Stp (RD P T ops ps (o :: os) env n h Q) (RD P T ops (⟨(· = b), none', n, n⟩ :: ps) os ((d, v) :: env) n h Q) := ⟨RD.look hw hd ho hb hc⟩
theorem Sd.make {o : Oper} {d : Tmp} {v : Value} {m : Meta} {cs : List Value} (ho : OpEv P T o env n .empty v (n + 1) (.new n m cs)) (hw : wants ops o env = some true) (hd : o.dst = some d) : Stp (RD P T ops ps (o :: os) env n h Q) (RD P T ops (.no n (n + 1) :: ps) os ((d, v) :: env) (n + 1) (h.app (.new n m cs)) Q) := ⟨RD.make hw hd ho⟩
theorem Sd.turn0 {o : Oper} {v : Value} {b o' : Nat} {vs : List Value} (ho : OpEv P T o env n (h.only b) v n (.sets b o' vs)) (hw : wants ops o env = some true) (hd : o.dst = none) (hb : b < n) (hc : CF ops ps.length (· = b) (· = b) ps.length ps) : Stp (RD P T ops ps (o :: os) env n h Q) (RD P T ops (⟨(· = b), (· = b), n, n⟩ :: ps) os env n (h.app (.sets b o' vs)) Q) := ⟨RD.turn0 hw hd ho hb hc⟩
theorem Sd.omit {o : Oper} {d : Tmp} (hw : wants ops o env = some false) (hd : o.dst = some d) : Stp (RD P T ops ps (o :: os) env n h Q) (RD P T ops (.no n n :: ps) os ((d, skipV) :: env) n h Q) := ⟨RD.omit hw hd⟩
theorem Sd.omit0 {o : Oper} (hw : wants ops o env = some false) (hd : o.dst = none) : Stp (RD P T ops ps (o :: os) env n h Q) (RD P T ops (.no n n :: ps) os env n h Q) := ⟨RD.omit0 hw hd⟩

theorem gS_badd {t t' : TypeId} {x y : Operand} {N : Prop} (k : Stp (RS P T ops (⟨dst, .binOp .add t x y t', ty, pos, after, gd⟩ :: os) env n h Q) N) : Stp (RS P T ops (⟨dst, .binOp .add t x y t', ty, pos, after, gd⟩ :: os) env n h Q) N := k
theorem gD_badd {t t' : TypeId} {x y : Operand} {N : Prop} (k : Stp (RD P T ops ps (⟨dst, .binOp .add t x y t', ty, pos, after, gd⟩ :: os) env n h Q) N) : Stp (RD P T ops ps (⟨dst, .binOp .add t x y t', ty, pos, after, gd⟩ :: os) env n h Q) N := k
theorem q0_badd {o : Oper} {v : Value} (k : OpEv P T o env n g v n .nil := by first | (apply o_add64; (first | exact Opd.const rfl | (apply Opd.tmp; (repeat apply Look.there rfl); exact Look.here) | exact Opd.func); (first | exact Opd.const rfl | (apply Opd.tmp; (repeat apply Look.there rfl); exact Look.here) | exact Opd.func); omega; omega) | (apply o_add_u8; (first | exact Opd.const rfl | (apply Opd.tmp; (repeat apply Look.there rfl); exact Look.here) | exact Opd.func); (first | exact Opd.const rfl | (apply Opd.tmp; (repeat apply Look.there rfl); exact Look.here) | exact Opd.func); omega; omega) | (apply o_add_u16; (first | exact Opd.const rfl | (apply Opd.tmp; (repeat apply Look.there rfl); exact Look.here) | exact Opd.func); (first | exact Opd.const rfl | (apply Opd.tmp; (repeat apply Look.there rfl); exact Look.here) | exact Opd.func); omega; omega) | (apply o_add_u32; (first | exact Opd.const rfl | (apply Opd.tmp; (repeat apply Look.there rfl); exact Look.here) | exact Opd.func); (first | exact Opd.const rfl | (apply Opd.tmp; (repeat apply Look.there rfl); exact Look.here) | exact Opd.func); omega; omega) | (apply o_add_u64; (first | exact Opd.const rfl | (apply Opd.tmp; (repeat apply Look.there rfl); exact Look.here) | exact Opd.func); (first | exact Opd.const rfl | (apply Opd.tmp; (repeat apply Look.there rfl); exact Look.here) | exact Opd.func); omega; omega) | (apply o_addM_u8; (first | exact Opd.const rfl | (apply Opd.tmp; (repeat apply Look.there rfl); exact Look.here) | exact Opd.func); (first | exact Opd.const rfl | (apply Opd.tmp; (repeat apply Look.there rfl); exact Look.here) | exact Opd.func)) | (apply o_addM_u16; (first | exact Opd.const rfl | (apply Opd.tmp; (repeat apply Look.there rfl); exact Look.here) | exact Opd.func); (first | exact Opd.const rfl | (apply Opd.tmp; (repeat apply Look.there rfl); exact Look.here) | exact Opd.func)) | (apply o_addM_u32; (first | exact Opd.const rfl | (apply Opd.tmp; (repeat apply Look.there rfl); exact Look.here) | exact Opd.func); (first | exact Opd.const rfl | (apply Opd.tmp; (repeat apply Look.there rfl); exact Look.here) | exact Opd.func)) | (apply o_addM_u64; (first | exact Opd.const rfl | (apply Opd.tmp; (repeat apply Look.there rfl); exact Look.here) | exact Opd.func); (first | exact Opd.const rfl | (apply Opd.tmp; (repeat apply Look.there rfl); exact Look.here) | exact Opd.func)) | (apply o_bin; (first | exact Opd.const rfl | (apply Opd.tmp; (repeat apply Look.there rfl); exact Look.here) | exact Opd.func); (first | exact Opd.const rfl | (apply Opd.tmp; (repeat apply Look.there rfl); exact Look.here) | exact Opd.func); rfl)) : OpEv P T o env n g v n .nil := k
theorem gS_bsub {t t' : TypeId} {x y : Operand} {N : Prop} (k : Stp (RS P T ops (⟨dst, .binOp .sub t x y t', ty, pos, after, gd⟩ :: os) env n h Q) N) : Stp (RS P T ops (⟨dst, .binOp .sub t x y t', ty, pos, after, gd⟩ :: os) env n h Q) N := k
theorem gD_bsub {t t' : TypeId} {x y : Operand} {N : Prop} (k : Stp (RD P T ops ps (⟨dst, .binOp .sub t x y t', ty, pos, after, gd⟩ :: os) env n h Q) N) : Stp (RD P T ops ps (⟨dst, .binOp .sub t x y t', ty, pos, after, gd⟩ :: os) env n h Q) N := k
theorem q0_bsub {o : Oper} {v : Value} (k : OpEv P T o env n g v n .nil := by first | (apply o_sub64; (first | exact Opd.const rfl | (apply Opd.tmp; (repeat apply Look.there rfl); exact Look.here) | exact Opd.func); (first | exact Opd.const rfl | (apply Opd.tmp; (repeat apply Look.there rfl); exact Look.here) | exact Opd.func); omega; omega) | (apply o_sub_u8; (first | exact Opd.const rfl | (apply Opd.tmp; (repeat apply Look.there rfl); exact Look.here) | exact Opd.func); (first | exact Opd.const rfl | (apply Opd.tmp; (repeat apply Look.there rfl); exact Look.here) | exact Opd.func); omega; omega) | (apply o_sub_u16; (first | exact Opd.const rfl | (apply Opd.tmp; (repeat apply Look.there rfl); exact Look.here) | exact Opd.func); (first | exact Opd.const rfl | (apply Opd.tmp; (repeat apply Look.there rfl); exact Look.here) | exact Opd.func); omega; omega) | (apply o_sub_u32; (first | exact Opd.const rfl | (apply Opd.tmp; (repeat apply Look.there rfl); exact Look.here) | exact Opd.func); (first | exact Opd.const rfl | (apply Opd.tmp; (repeat apply Look.there rfl); exact Look.here) | exact Opd.func); omega; omega) | (apply o_sub_u64; (first | exact Opd.const rfl | (apply Opd.tmp; (repeat apply Look.there rfl); exact Look.here) | exact Opd.func); (first | exact Opd.const rfl | (apply Opd.tmp; (repeat apply Look.there rfl); exact Look.here) | exact Opd.func); omega; omega) | (apply o_subM_u8; (first | exact Opd.const rfl | (apply Opd.tmp; (repeat apply Look.there rfl); exact Look.here) | exact Opd.func); (first | exact Opd.const rfl | (apply Opd.tmp; (repeat apply Look.there rfl); exact Look.here) | exact Opd.func)) | (apply o_subM_u16; (first | exact Opd.const rfl | (apply Opd.tmp; (repeat apply Look.there rfl); exact Look.here) | exact Opd.func); (first | exact Opd.const rfl | (apply Opd.tmp; (repeat apply Look.there rfl); exact Look.here) | exact Opd.func)) | (apply o_subM_u32; (first | exact Opd.const rfl | (apply Opd.tmp; (repeat apply Look.there rfl); exact Look.here) | exact Opd.func); (first | exact Opd.const rfl | (apply Opd.tmp; (repeat apply Look.there rfl); exact Look.here) | exact Opd.func)) | (apply o_subM_u64; (first | exact Opd.const rfl | (apply Opd.tmp; (repeat apply Look.there rfl); exact Look.here) | exact Opd.func); (first | exact Opd.const rfl | (apply Opd.tmp; (repeat apply Look.there rfl); exact Look.here) | exact Opd.func)) | (apply o_bin; (first | exact Opd.const rfl | (apply Opd.tmp; (repeat apply Look.there rfl); exact Look.here) | exact Opd.func); (first | exact Opd.const rfl | (apply Opd.tmp; (repeat apply Look.there rfl); exact Look.here) | exact Opd.func); rfl)) : OpEv P T o env n g v n .nil := k
theorem gS_bmul {t t' : TypeId} {x y : Operand} {N : Prop} (k : Stp (RS P T ops (⟨dst, .binOp .mul t x y t', ty, pos, after, gd⟩ :: os) env n h Q) N) : Stp (RS P T ops (⟨dst, .binOp .mul t x y t', ty, pos, after, gd⟩ :: os) env n h Q) N := k
theorem gD_bmul {t t' : TypeId} {x y : Operand} {N : Prop} (k : Stp (RD P T ops ps (⟨dst, .binOp .mul t x y t', ty, pos, after, gd⟩ :: os) env n h Q) N) : Stp (RD P T ops ps (⟨dst, .binOp .mul t x y t', ty, pos, after, gd⟩ :: os) env n h Q) N := k
theorem q0_bmul {o : Oper} {v : Value} (k : OpEv P T o env n g v n .nil := by first | (apply o_mul64; (first | exact Opd.const rfl | (apply Opd.tmp; (repeat apply Look.there rfl); exact Look.here) | exact Opd.func); (first | exact Opd.const rfl | (apply Opd.tmp; (repeat apply Look.there rfl); exact Look.here) | exact Opd.func); omega; omega) | (apply o_mul_u8; (first | exact Opd.const rfl | (apply Opd.tmp; (repeat apply Look.there rfl); exact Look.here) | exact Opd.func); (first | exact Opd.const rfl | (apply Opd.tmp; (repeat apply Look.there rfl); exact Look.here) | exact Opd.func); omega; omega) | (apply o_mul_u16; (first | exact Opd.const rfl | (apply Opd.tmp; (repeat apply Look.there rfl); exact Look.here) | exact Opd.func); (first | exact Opd.const rfl | (apply Opd.tmp; (repeat apply Look.there rfl); exact Look.here) | exact Opd.func); omega; omega) | (apply o_mul_u32; (first | exact Opd.const rfl | (apply Opd.tmp; (repeat apply Look.there rfl); exact Look.here) | exact Opd.func); (first | exact Opd.const rfl | (apply Opd.tmp; (repeat apply Look.there rfl); exact Look.here) | exact Opd.func); omega; omega) | (apply o_mul_u64; (first | exact Opd.const rfl | (apply Opd.tmp; (repeat apply Look.there rfl); exact Look.here) | exact Opd.func); (first | exact Opd.const rfl | (apply Opd.tmp; (repeat apply Look.there rfl); exact Look.here) | exact Opd.func); omega; omega) | (apply o_mulM_u8; (first | exact Opd.const rfl | (apply Opd.tmp; (repeat apply Look.there rfl); exact Look.here) | exact Opd.func); (first | exact Opd.const rfl | (apply Opd.tmp; (repeat apply Look.there rfl); exact Look.here) | exact Opd.func)) | (apply o_mulM_u16; (first | exact Opd.const rfl | (apply Opd.tmp; (repeat apply Look.there rfl); exact Look.here) | exact Opd.func); (first | exact Opd.const rfl | (apply Opd.tmp; (repeat apply Look.there rfl); exact Look.here) | exact Opd.func)) | (apply o_mulM_u32; (first | exact Opd.const rfl | (apply Opd.tmp; (repeat apply Look.there rfl); exact Look.here) | exact Opd.func); (first | exact Opd.const rfl | (apply Opd.tmp; (repeat apply Look.there rfl); exact Look.here) | exact Opd.func)) | (apply o_mulM_u64; (first | exact Opd.const rfl | (apply Opd.tmp; (repeat apply Look.there rfl); exact Look.here) | exact Opd.func); (first | exact Opd.const rfl | (apply Opd.tmp; (repeat apply Look.there rfl); exact Look.here) | exact Opd.func)) | (apply o_bin; (first | exact Opd.const rfl | (apply Opd.tmp; (repeat apply Look.there rfl); exact Look.here) | exact Opd.func); (first | exact Opd.const rfl | (apply Opd.tmp; (repeat apply Look.there rfl); exact Look.here) | exact Opd.func); rfl)) : OpEv P T o env n g v n .nil := k
theorem gS_bquo {t t' : TypeId} {x y : Operand} {N : Prop} (k : Stp (RS P T ops (⟨dst, .binOp .quo t x y t', ty, pos, after, gd⟩ :: os) env n h Q) N) : Stp (RS P T ops (⟨dst, .binOp .quo t x y t', ty, pos, after, gd⟩ :: os) env n h Q) N := k
theorem gD_bquo {t t' : TypeId} {x y : Operand} {N : Prop} (k : Stp (RD P T ops ps (⟨dst, .binOp .quo t x y t', ty, pos, after, gd⟩ :: os) env n h Q) N) : Stp (RD P T ops ps (⟨dst, .binOp .quo t x y t', ty, pos, after, gd⟩ :: os) env n h Q) N := k
theorem q0_bquo {o : Oper} {v : Value} (k : OpEv P T o env n g v n .nil := by first | (apply o_quo64; (first | exact Opd.const rfl | (apply Opd.tmp; (repeat apply Look.there rfl); exact Look.here) | exact Opd.func); (first | exact Opd.const rfl | (apply Opd.tmp; (repeat apply Look.there rfl); exact Look.here) | exact Opd.func); omega; omega; omega) | (apply o_quo_u8; (first | exact Opd.const rfl | (apply Opd.tmp; (repeat apply Look.there rfl); exact Look.here) | exact Opd.func); (first | exact Opd.const rfl | (apply Opd.tmp; (repeat apply Look.there rfl); exact Look.here) | exact Opd.func); omega; omega; omega) | (apply o_quo_u16; (first | exact Opd.const rfl | (apply Opd.tmp; (repeat apply Look.there rfl); exact Look.here) | exact Opd.func); (first | exact Opd.const rfl | (apply Opd.tmp; (repeat apply Look.there rfl); exact Look.here) | exact Opd.func); omega; omega; omega) | (apply o_quo_u32; (first | exact Opd.const rfl | (apply Opd.tmp; (repeat apply Look.there rfl); exact Look.here) | exact Opd.func); (first | exact Opd.const rfl | (apply Opd.tmp; (repeat apply Look.there rfl); exact Look.here) | exact Opd.func); omega; omega; omega) | (apply o_quo_u64; (first | exact Opd.const rfl | (apply Opd.tmp; (repeat apply Look.there rfl); exact Look.here) | exact Opd.func); (first | exact Opd.const rfl | (apply Opd.tmp; (repeat apply Look.there rfl); exact Look.here) | exact Opd.func); omega; omega; omega)) : OpEv P T o env n g v n .nil := k
theorem gS_brem {t t' : TypeId} {x y : Operand} {N : Prop} (k : Stp (RS P T ops (⟨dst, .binOp .rem t x y t', ty, pos, after, gd⟩ :: os) env n h Q) N) : Stp (RS P T ops (⟨dst, .binOp .rem t x y t', ty, pos, after, gd⟩ :: os) env n h Q) N := k
theorem gD_brem {t t' : TypeId} {x y : Operand} {N : Prop} (k : Stp (RD P T ops ps (⟨dst, .binOp .rem t x y t', ty, pos, after, gd⟩ :: os) env n h Q) N) : Stp (RD P T ops ps (⟨dst, .binOp .rem t x y t', ty, pos, after, gd⟩ :: os) env n h Q) N := k
theorem q0_brem {o : Oper} {v : Value} (k : OpEv P T o env n g v n .nil := by first | (apply o_rem64; (first | exact Opd.const rfl | (apply Opd.tmp; (repeat apply Look.there rfl); exact Look.here) | exact Opd.func); (first | exact Opd.const rfl | (apply Opd.tmp; (repeat apply Look.there rfl); exact Look.here) | exact Opd.func); omega; omega)) : OpEv P T o env n g v n .nil := k
theorem gS_band {t t' : TypeId} {x y : Operand} {N : Prop} (k : Stp (RS P T ops (⟨dst, .binOp .and t x y t', ty, pos, after, gd⟩ :: os) env n h Q) N) : Stp (RS P T ops (⟨dst, .binOp .and t x y t', ty, pos, after, gd⟩ :: os) env n h Q) N := k
theorem gD_band {t t' : TypeId} {x y : Operand} {N : Prop} (k : Stp (RD P T ops ps (⟨dst, .binOp .and t x y t', ty, pos, after, gd⟩ :: os) env n h Q) N) : Stp (RD P T ops ps (⟨dst, .binOp .and t x y t', ty, pos, after, gd⟩ :: os) env n h Q) N := k
theorem q0_band {o : Oper} {v : Value} (k : OpEv P T o env n g v n .nil := by first | (apply o_mask_u8; (first | exact Opd.const rfl | (apply Opd.tmp; (repeat apply Look.there rfl); exact Look.here) | exact Opd.func); (first | exact Opd.const rfl | (apply Opd.tmp; (repeat apply Look.there rfl); exact Look.here) | exact Opd.func); (first | omega | exact Int.natCast_nonneg _); omega; omega; (simp only [Int.reduceAdd]; rfl); decide) | (apply o_mask_u16; (first | exact Opd.const rfl | (apply Opd.tmp; (repeat apply Look.there rfl); exact Look.here) | exact Opd.func); (first | exact Opd.const rfl | (apply Opd.tmp; (repeat apply Look.there rfl); exact Look.here) | exact Opd.func); (first | omega | exact Int.natCast_nonneg _); omega; omega; (simp only [Int.reduceAdd]; rfl); decide) | (apply o_mask_u32; (first | exact Opd.const rfl | (apply Opd.tmp; (repeat apply Look.there rfl); exact Look.here) | exact Opd.func); (first | exact Opd.const rfl | (apply Opd.tmp; (repeat apply Look.there rfl); exact Look.here) | exact Opd.func); (first | omega | exact Int.natCast_nonneg _); omega; omega; (simp only [Int.reduceAdd]; rfl); decide) | (apply o_mask_u64; (first | exact Opd.const rfl | (apply Opd.tmp; (repeat apply Look.there rfl); exact Look.here) | exact Opd.func); (first | exact Opd.const rfl | (apply Opd.tmp; (repeat apply Look.there rfl); exact Look.here) | exact Opd.func); (first | omega | exact Int.natCast_nonneg _); omega; omega; (simp only [Int.reduceAdd]; rfl); decide) | (apply o_mask_i64; (first | exact Opd.const rfl | (apply Opd.tmp; (repeat apply Look.there rfl); exact Look.here) | exact Opd.func); (first | exact Opd.const rfl | (apply Opd.tmp; (repeat apply Look.there rfl); exact Look.here) | exact Opd.func); (first | omega | exact Int.natCast_nonneg _); omega; omega; (simp only [Int.reduceAdd]; rfl); decide) | (apply o_and_u8; (first | exact Opd.const rfl | (apply Opd.tmp; (repeat apply Look.there rfl); exact Look.here) | exact Opd.func); (first | exact Opd.const rfl | (apply Opd.tmp; (repeat apply Look.there rfl); exact Look.here) | exact Opd.func); (first | omega | exact Int.natCast_nonneg _); (first | omega | exact Int.natCast_nonneg _); (first | omega | exact u8lt | (apply nat_shr_lt; omega) | (apply nat_and_lt; omega) | (apply nat_and_lt2; omega)); (first | omega | exact u8lt | (apply nat_shr_lt; omega) | (apply nat_and_lt; omega) | (apply nat_and_lt2; omega))) | (apply o_and_u16; (first | exact Opd.const rfl | (apply Opd.tmp; (repeat apply Look.there rfl); exact Look.here) | exact Opd.func); (first | exact Opd.const rfl | (apply Opd.tmp; (repeat apply Look.there rfl); exact Look.here) | exact Opd.func); (first | omega | exact Int.natCast_nonneg _); (first | omega | exact Int.natCast_nonneg _); (first | omega | exact u8lt | (apply nat_shr_lt; omega) | (apply nat_and_lt; omega) | (apply nat_and_lt2; omega)); (first | omega | exact u8lt | (apply nat_shr_lt; omega) | (apply nat_and_lt; omega) | (apply nat_and_lt2; omega))) | (apply o_and_u32; (first | exact Opd.const rfl | (apply Opd.tmp; (repeat apply Look.there rfl); exact Look.here) | exact Opd.func); (first | exact Opd.const rfl | (apply Opd.tmp; (repeat apply Look.there rfl); exact Look.here) | exact Opd.func); (first | omega | exact Int.natCast_nonneg _); (first | omega | exact Int.natCast_nonneg _); (first | omega | exact u8lt | (apply nat_shr_lt; omega) | (apply nat_and_lt; omega) | (apply nat_and_lt2; omega)); (first | omega | exact u8lt | (apply nat_shr_lt; omega) | (apply nat_and_lt; omega) | (apply nat_and_lt2; omega))) | (apply o_and_u64; (first | exact Opd.const rfl | (apply Opd.tmp; (repeat apply Look.there rfl); exact Look.here) | exact Opd.func); (first | exact Opd.const rfl | (apply Opd.tmp; (repeat apply Look.there rfl); exact Look.here) | exact Opd.func); (first | omega | exact Int.natCast_nonneg _); (first | omega | exact Int.natCast_nonneg _); (first | omega | exact u8lt | (apply nat_shr_lt; omega) | (apply nat_and_lt; omega) | (apply nat_and_lt2; omega)); (first | omega | exact u8lt | (apply nat_shr_lt; omega) | (apply nat_and_lt; omega) | (apply nat_and_lt2; omega))) | (apply o_and_i64; (first | exact Opd.const rfl | (apply Opd.tmp; (repeat apply Look.there rfl); exact Look.here) | exact Opd.func); (first | exact Opd.const rfl | (apply Opd.tmp; (repeat apply Look.there rfl); exact Look.here) | exact Opd.func); (first | omega | exact Int.natCast_nonneg _); (first | omega | exact Int.natCast_nonneg _); (first | omega | exact u8lt | (apply nat_shr_lt; omega) | (apply nat_and_lt; omega) | (apply nat_and_lt2; omega)); (first | omega | exact u8lt | (apply nat_shr_lt; omega) | (apply nat_and_lt; omega) | (apply nat_and_lt2; omega)))) : OpEv P T o env n g v n .nil := k
theorem gS_bor {t t' : TypeId} {x y : Operand} {N : Prop} (k : Stp (RS P T ops (⟨dst, .binOp .or t x y t', ty, pos, after, gd⟩ :: os) env n h Q) N) : Stp (RS P T ops (⟨dst, .binOp .or t x y t', ty, pos, after, gd⟩ :: os) env n h Q) N := k
theorem gD_bor {t t' : TypeId} {x y : Operand} {N : Prop} (k : Stp (RD P T ops ps (⟨dst, .binOp .or t x y t', ty, pos, after, gd⟩ :: os) env n h Q) N) : Stp (RD P T ops ps (⟨dst, .binOp .or t x y t', ty, pos, after, gd⟩ :: os) env n h Q) N := k
theorem q0_bor {o : Oper} {v : Value} (k : OpEv P T o env n g v n .nil := by first | (apply o_or_u8; (first | exact Opd.const rfl | (apply Opd.tmp; (repeat apply Look.there rfl); exact Look.here) | exact Opd.func); (first | exact Opd.const rfl | (apply Opd.tmp; (repeat apply Look.there rfl); exact Look.here) | exact Opd.func); (first | omega | exact Int.natCast_nonneg _); (first | omega | exact Int.natCast_nonneg _); (first | omega | exact u8lt | (apply nat_shr_lt; omega) | (apply nat_and_lt; omega) | (apply nat_and_lt2; omega)); (first | omega | exact u8lt | (apply nat_shr_lt; omega) | (apply nat_and_lt; omega) | (apply nat_and_lt2; omega))) | (apply o_or_u16; (first | exact Opd.const rfl | (apply Opd.tmp; (repeat apply Look.there rfl); exact Look.here) | exact Opd.func); (first | exact Opd.const rfl | (apply Opd.tmp; (repeat apply Look.there rfl); exact Look.here) | exact Opd.func); (first | omega | exact Int.natCast_nonneg _); (first | omega | exact Int.natCast_nonneg _); (first | omega | exact u8lt | (apply nat_shr_lt; omega) | (apply nat_and_lt; omega) | (apply nat_and_lt2; omega)); (first | omega | exact u8lt | (apply nat_shr_lt; omega) | (apply nat_and_lt; omega) | (apply nat_and_lt2; omega))) | (apply o_or_u32; (first | exact Opd.const rfl | (apply Opd.tmp; (repeat apply Look.there rfl); exact Look.here) | exact Opd.func); (first | exact Opd.const rfl | (apply Opd.tmp; (repeat apply Look.there rfl); exact Look.here) | exact Opd.func); (first | omega | exact Int.natCast_nonneg _); (first | omega | exact Int.natCast_nonneg _); (first | omega | exact u8lt | (apply nat_shr_lt; omega) | (apply nat_and_lt; omega) | (apply nat_and_lt2; omega)); (first | omega | exact u8lt | (apply nat_shr_lt; omega) | (apply nat_and_lt; omega) | (apply nat_and_lt2; omega))) | (apply o_or_u64; (first | exact Opd.const rfl | (apply Opd.tmp; (repeat apply Look.there rfl); exact Look.here) | exact Opd.func); (first | exact Opd.const rfl | (apply Opd.tmp; (repeat apply Look.there rfl); exact Look.here) | exact Opd.func); (first | omega | exact Int.natCast_nonneg _); (first | omega | exact Int.natCast_nonneg _); (first | omega | exact u8lt | (apply nat_shr_lt; omega) | (apply nat_and_lt; omega) | (apply nat_and_lt2; omega)); (first | omega | exact u8lt | (apply nat_shr_lt; omega) | (apply nat_and_lt; omega) | (apply nat_and_lt2; omega))) | (apply o_or_i64; (first | exact Opd.const rfl | (apply Opd.tmp; (repeat apply Look.there rfl); exact Look.here) | exact Opd.func); (first | exact Opd.const rfl | (apply Opd.tmp; (repeat apply Look.there rfl); exact Look.here) | exact Opd.func); (first | omega | exact Int.natCast_nonneg _); (first | omega | exact Int.natCast_nonneg _); (first | omega | exact u8lt | (apply nat_shr_lt; omega) | (apply nat_and_lt; omega) | (apply nat_and_lt2; omega)); (first | omega | exact u8lt | (apply nat_shr_lt; omega) | (apply nat_and_lt; omega) | (apply nat_and_lt2; omega)))) : OpEv P T o env n g v n .nil := k
theorem gS_bxor {t t' : TypeId} {x y : Operand} {N : Prop} (k : Stp (RS P T ops (⟨dst, .binOp .xor t x y t', ty, pos, after, gd⟩ :: os) env n h Q) N) : Stp (RS P T ops (⟨dst, .binOp .xor t x y t', ty, pos, after, gd⟩ :: os) env n h Q) N := k
theorem gD_bxor {t t' : TypeId} {x y : Operand} {N : Prop} (k : Stp (RD P T ops ps (⟨dst, .binOp .xor t x y t', ty, pos, after, gd⟩ :: os) env n h Q) N) : Stp (RD P T ops ps (⟨dst, .binOp .xor t x y t', ty, pos, after, gd⟩ :: os) env n h Q) N := k
theorem q0_bxor {o : Oper} {v : Value} (k : OpEv P T o env n g v n .nil := by first | (apply o_xor_u8; (first | exact Opd.const rfl | (apply Opd.tmp; (repeat apply Look.there rfl); exact Look.here) | exact Opd.func); (first | exact Opd.const rfl | (apply Opd.tmp; (repeat apply Look.there rfl); exact Look.here) | exact Opd.func); (first | omega | exact Int.natCast_nonneg _); (first | omega | exact Int.natCast_nonneg _); (first | omega | exact u8lt | (apply nat_shr_lt; omega) | (apply nat_and_lt; omega) | (apply nat_and_lt2; omega)); (first | omega | exact u8lt | (apply nat_shr_lt; omega) | (apply nat_and_lt; omega) | (apply nat_and_lt2; omega))) | (apply o_xor_u16; (first | exact Opd.const rfl | (apply Opd.tmp; (repeat apply Look.there rfl); exact Look.here) | exact Opd.func); (first | exact Opd.const rfl | (apply Opd.tmp; (repeat apply Look.there rfl); exact Look.here) | exact Opd.func); (first | omega | exact Int.natCast_nonneg _); (first | omega | exact Int.natCast_nonneg _); (first | omega | exact u8lt | (apply nat_shr_lt; omega) | (apply nat_and_lt; omega) | (apply nat_and_lt2; omega)); (first | omega | exact u8lt | (apply nat_shr_lt; omega) | (apply nat_and_lt; omega) | (apply nat_and_lt2; omega))) | (apply o_xor_u32; (first | exact Opd.const rfl | (apply Opd.tmp; (repeat apply Look.there rfl); exact Look.here) | exact Opd.func); (first | exact Opd.const rfl | (apply Opd.tmp; (repeat apply Look.there rfl); exact Look.here) | exact Opd.func); (first | omega | exact Int.natCast_nonneg _); (first | omega | exact Int.natCast_nonneg _); (first | omega | exact u8lt | (apply nat_shr_lt; omega) | (apply nat_and_lt; omega) | (apply nat_and_lt2; omega)); (first | omega | exact u8lt | (apply nat_shr_lt; omega) | (apply nat_and_lt; omega) | (apply nat_and_lt2; omega))) | (apply o_xor_u64; (first | exact Opd.const rfl | (apply Opd.tmp; (repeat apply Look.there rfl); exact Look.here) | exact Opd.func); (first | exact Opd.const rfl | (apply Opd.tmp; (repeat apply Look.there rfl); exact Look.here) | exact Opd.func); (first | omega | exact Int.natCast_nonneg _); (first | omega | exact Int.natCast_nonneg _); (first | omega | exact u8lt | (apply nat_shr_lt; omega) | (apply nat_and_lt; omega) | (apply nat_and_lt2; omega)); (first | omega | exact u8lt | (apply nat_shr_lt; omega) | (apply nat_and_lt; omega) | (apply nat_and_lt2; omega))) | (apply o_xor_i64; (first | exact Opd.const rfl | (apply Opd.tmp; (repeat apply Look.there rfl); exact Look.here) | exact Opd.func); (first | exact Opd.const rfl | (apply Opd.tmp; (repeat apply Look.there rfl); exact Look.here) | exact Opd.func); (first | omega | exact Int.natCast_nonneg _); (first | omega | exact Int.natCast_nonneg _); (first | omega | exact u8lt | (apply nat_shr_lt; omega) | (apply nat_and_lt; omega) | (apply nat_and_lt2; omega)); (first | omega | exact u8lt | (apply nat_shr_lt; omega) | (apply nat_and_lt; omega) | (apply nat_and_lt2; omega)))) : OpEv P T o env n g v n .nil := k
theorem gS_bandNot {t t' : TypeId} {x y : Operand} {N : Prop} (k : Stp (RS P T ops (⟨dst, .binOp .andNot t x y t', ty, pos, after, gd⟩ :: os) env n h Q) N) : Stp (RS P T ops (⟨dst, .binOp .andNot t x y t', ty, pos, after, gd⟩ :: os) env n h Q) N := k
theorem gD_bandNot {t t' : TypeId} {x y : Operand} {N : Prop} (k : Stp (RD P T ops ps (⟨dst, .binOp .andNot t x y t', ty, pos, after, gd⟩ :: os) env n h Q) N) : Stp (RD P T ops ps (⟨dst, .binOp .andNot t x y t', ty, pos, after, gd⟩ :: os) env n h Q) N := k
theorem gS_bshl {t t' : TypeId} {x y : Operand} {N : Prop} (k : Stp (RS P T ops (⟨dst, .binOp .shl t x y t', ty, pos, after, gd⟩ :: os) env n h Q) N) : Stp (RS P T ops (⟨dst, .binOp .shl t x y t', ty, pos, after, gd⟩ :: os) env n h Q) N := k
theorem gD_bshl {t t' : TypeId} {x y : Operand} {N : Prop} (k : Stp (RD P T ops ps (⟨dst, .binOp .shl t x y t', ty, pos, after, gd⟩ :: os) env n h Q) N) : Stp (RD P T ops ps (⟨dst, .binOp .shl t x y t', ty, pos, after, gd⟩ :: os) env n h Q) N := k
theorem q0_bshl {o : Oper} {v : Value} (k : OpEv P T o env n g v n .nil := by first | (apply o_shl_u8; (first | exact Opd.const rfl | (apply Opd.tmp; (repeat apply Look.there rfl); exact Look.here) | exact Opd.func); (first | exact Opd.const rfl | (apply Opd.tmp; (repeat apply Look.there rfl); exact Look.here) | exact Opd.func); (first | omega | exact Int.natCast_nonneg _); (first | omega | exact Int.natCast_nonneg _)) | (apply o_shl_u16; (first | exact Opd.const rfl | (apply Opd.tmp; (repeat apply Look.there rfl); exact Look.here) | exact Opd.func); (first | exact Opd.const rfl | (apply Opd.tmp; (repeat apply Look.there rfl); exact Look.here) | exact Opd.func); (first | omega | exact Int.natCast_nonneg _); (first | omega | exact Int.natCast_nonneg _)) | (apply o_shl_u32; (first | exact Opd.const rfl | (apply Opd.tmp; (repeat apply Look.there rfl); exact Look.here) | exact Opd.func); (first | exact Opd.const rfl | (apply Opd.tmp; (repeat apply Look.there rfl); exact Look.here) | exact Opd.func); (first | omega | exact Int.natCast_nonneg _); (first | omega | exact Int.natCast_nonneg _)) | (apply o_shl_u64; (first | exact Opd.const rfl | (apply Opd.tmp; (repeat apply Look.there rfl); exact Look.here) | exact Opd.func); (first | exact Opd.const rfl | (apply Opd.tmp; (repeat apply Look.there rfl); exact Look.here) | exact Opd.func); (first | omega | exact Int.natCast_nonneg _); (first | omega | exact Int.natCast_nonneg _))) : OpEv P T o env n g v n .nil := k
theorem gS_bshr {t t' : TypeId} {x y : Operand} {N : Prop} (k : Stp (RS P T ops (⟨dst, .binOp .shr t x y t', ty, pos, after, gd⟩ :: os) env n h Q) N) : Stp (RS P T ops (⟨dst, .binOp .shr t x y t', ty, pos, after, gd⟩ :: os) env n h Q) N := k
theorem gD_bshr {t t' : TypeId} {x y : Operand} {N : Prop} (k : Stp (RD P T ops ps (⟨dst, .binOp .shr t x y t', ty, pos, after, gd⟩ :: os) env n h Q) N) : Stp (RD P T ops ps (⟨dst, .binOp .shr t x y t', ty, pos, after, gd⟩ :: os) env n h Q) N := k
theorem q0_bshr {o : Oper} {v : Value} (k : OpEv P T o env n g v n .nil := by first | (apply o_shrC; (first | exact Opd.const rfl | (apply Opd.tmp; (repeat apply Look.there rfl); exact Look.here) | exact Opd.func); (first | exact Opd.const rfl | (apply Opd.tmp; (repeat apply Look.there rfl); exact Look.here) | exact Opd.func); omega; omega; (simp only [Int.reduceToNat, Int.reducePow]; rfl)) | (apply o_shrN_u8; (first | exact Opd.const rfl | (apply Opd.tmp; (repeat apply Look.there rfl); exact Look.here) | exact Opd.func); (first | exact Opd.const rfl | (apply Opd.tmp; (repeat apply Look.there rfl); exact Look.here) | exact Opd.func); (first | omega | exact Int.natCast_nonneg _); (first | omega | exact Int.natCast_nonneg _); (first | omega | exact u8lt | (apply nat_shr_lt; omega) | (apply nat_and_lt; omega) | (apply nat_and_lt2; omega))) | (apply o_shrN_u64; (first | exact Opd.const rfl | (apply Opd.tmp; (repeat apply Look.there rfl); exact Look.here) | exact Opd.func); (first | exact Opd.const rfl | (apply Opd.tmp; (repeat apply Look.there rfl); exact Look.here) | exact Opd.func); (first | omega | exact Int.natCast_nonneg _); (first | omega | exact Int.natCast_nonneg _); (first | omega | exact u8lt | (apply nat_shr_lt; omega) | (apply nat_and_lt; omega) | (apply nat_and_lt2; omega))) | (apply o_shrN_i64; (first | exact Opd.const rfl | (apply Opd.tmp; (repeat apply Look.there rfl); exact Look.here) | exact Opd.func); (first | exact Opd.const rfl | (apply Opd.tmp; (repeat apply Look.there rfl); exact Look.here) | exact Opd.func); (first | omega | exact Int.natCast_nonneg _); (first | omega | exact Int.natCast_nonneg _); (first | omega | exact u8lt | (apply nat_shr_lt; omega) | (apply nat_and_lt; omega) | (apply nat_and_lt2; omega))) | (apply o_shrN_u32; (first | exact Opd.const rfl | (apply Opd.tmp; (repeat apply Look.there rfl); exact Look.here) | exact Opd.func); (first | exact Opd.const rfl | (apply Opd.tmp; (repeat apply Look.there rfl); exact Look.here) | exact Opd.func); (first | omega | exact Int.natCast_nonneg _); (first | omega | exact Int.natCast_nonneg _); (first | omega | exact u8lt | (apply nat_shr_lt; omega) | (apply nat_and_lt; omega) | (apply nat_and_lt2; omega))) | (apply o_shrN_u16; (first | exact Opd.const rfl | (apply Opd.tmp; (repeat apply Look.there rfl); exact Look.here) | exact Opd.func); (first | exact Opd.const rfl | (apply Opd.tmp; (repeat apply Look.there rfl); exact Look.here) | exact Opd.func); (first | omega | exact Int.natCast_nonneg _); (first | omega | exact Int.natCast_nonneg _); (first | omega | exact u8lt | (apply nat_shr_lt; omega) | (apply nat_and_lt; omega) | (apply nat_and_lt2; omega))) | (apply o_shr; (first | exact Opd.const rfl | (apply Opd.tmp; (repeat apply Look.there rfl); exact Look.here) | exact Opd.func); (first | exact Opd.const rfl | (apply Opd.tmp; (repeat apply Look.there rfl); exact Look.here) | exact Opd.func); omega)) : OpEv P T o env n g v n .nil := k
theorem gS_beql {t t' : TypeId} {x y : Operand} {N : Prop} (k : Stp (RS P T ops (⟨dst, .binOp .eql t x y t', ty, pos, after, gd⟩ :: os) env n h Q) N) : Stp (RS P T ops (⟨dst, .binOp .eql t x y t', ty, pos, after, gd⟩ :: os) env n h Q) N := k
theorem gD_beql {t t' : TypeId} {x y : Operand} {N : Prop} (k : Stp (RD P T ops ps (⟨dst, .binOp .eql t x y t', ty, pos, after, gd⟩ :: os) env n h Q) N) : Stp (RD P T ops ps (⟨dst, .binOp .eql t x y t', ty, pos, after, gd⟩ :: os) env n h Q) N := k
theorem q0_beql {o : Oper} {v : Value} (k : OpEv P T o env n g v n .nil := by first | (apply o_eqbT; exact Uc.out; (first | exact Opd.const rfl | (apply Opd.tmp; (repeat apply Look.there rfl); exact Look.here) | exact Opd.func); (first | exact Opd.const rfl | (apply Opd.tmp; (repeat apply Look.there rfl); exact Look.here) | exact Opd.func))) : OpEv P T o env n g v n .nil := k
theorem q1_beql {o : Oper} {p : Prop} {dp : Decidable p} (k : OpEv P T o env n g (.bool (decide p)) n .nil := by first | (apply o_eql; (first | exact Opd.const rfl | (apply Opd.tmp; (repeat apply Look.there rfl); exact Look.here) | exact Opd.func); (first | exact Opd.const rfl | (apply Opd.tmp; (repeat apply Look.there rfl); exact Look.here) | exact Opd.func)) | (apply o_eqS; (first | exact Opd.const rfl | (apply Opd.tmp; (repeat apply Look.there rfl); exact Look.here) | exact Opd.func); (first | exact Opd.const rfl | (apply Opd.tmp; (repeat apply Look.there rfl); exact Look.here) | exact Opd.func)) | (apply o_eqbD; exact Uc.out; (first | exact Opd.const rfl | (apply Opd.tmp; (repeat apply Look.there rfl); exact Look.here) | exact Opd.func); (first | exact Opd.const rfl | (apply Opd.tmp; (repeat apply Look.there rfl); exact Look.here) | exact Opd.func))) : OpEv P T o env n g (.bool (decide p)) n .nil := k
theorem hS_beql {t t' : TypeId} {x y : Operand} {N N2 : Prop} (k : Stp2 (RS P T ops (⟨dst, .binOp .eql t x y t', ty, pos, after, gd⟩ :: os) env n h Q) N N2) : Stp2 (RS P T ops (⟨dst, .binOp .eql t x y t', ty, pos, after, gd⟩ :: os) env n h Q) N N2 := k
theorem hD_beql {t t' : TypeId} {x y : Operand} {N N2 : Prop} (k : Stp2 (RD P T ops ps (⟨dst, .binOp .eql t x y t', ty, pos, after, gd⟩ :: os) env n h Q) N N2) : Stp2 (RD P T ops ps (⟨dst, .binOp .eql t x y t', ty, pos, after, gd⟩ :: os) env n h Q) N N2 := k
theorem q2_beql {o : Oper} {v : Value} (k : OpEv P T o env n g v n .nil := by first | (apply o_eqnil; (first | exact Opd.const rfl | (apply Opd.tmp; (repeat apply Look.there rfl); exact Look.here) | exact Opd.func); exact Uc.out; rfl; rfl)) : OpEv P T o env n g v n .nil := k
theorem gS_bneq {t t' : TypeId} {x y : Operand} {N : Prop} (k : Stp (RS P T ops (⟨dst, .binOp .neq t x y t', ty, pos, after, gd⟩ :: os) env n h Q) N) : Stp (RS P T ops (⟨dst, .binOp .neq t x y t', ty, pos, after, gd⟩ :: os) env n h Q) N := k
theorem gD_bneq {t t' : TypeId} {x y : Operand} {N : Prop} (k : Stp (RD P T ops ps (⟨dst, .binOp .neq t x y t', ty, pos, after, gd⟩ :: os) env n h Q) N) : Stp (RD P T ops ps (⟨dst, .binOp .neq t x y t', ty, pos, after, gd⟩ :: os) env n h Q) N := k
theorem q0_bneq {o : Oper} {v : Value} (k : OpEv P T o env n g v n .nil := by first | (apply o_nebT; exact Uc.out; (first | exact Opd.const rfl | (apply Opd.tmp; (repeat apply Look.there rfl); exact Look.here) | exact Opd.func); (first | exact Opd.const rfl | (apply Opd.tmp; (repeat apply Look.there rfl); exact Look.here) | exact Opd.func))) : OpEv P T o env n g v n .nil := k
theorem q1_bneq {o : Oper} {p : Prop} {dp : Decidable p} (k : OpEv P T o env n g (.bool (decide p)) n .nil := by first | (apply o_neq; (first | exact Opd.const rfl | (apply Opd.tmp; (repeat apply Look.there rfl); exact Look.here) | exact Opd.func); (first | exact Opd.const rfl | (apply Opd.tmp; (repeat apply Look.there rfl); exact Look.here) | exact Opd.func)) | (apply o_neS; (first | exact Opd.const rfl | (apply Opd.tmp; (repeat apply Look.there rfl); exact Look.here) | exact Opd.func); (first | exact Opd.const rfl | (apply Opd.tmp; (repeat apply Look.there rfl); exact Look.here) | exact Opd.func)) | (apply o_nebD; exact Uc.out; (first | exact Opd.const rfl | (apply Opd.tmp; (repeat apply Look.there rfl); exact Look.here) | exact Opd.func); (first | exact Opd.const rfl | (apply Opd.tmp; (repeat apply Look.there rfl); exact Look.here) | exact Opd.func))) : OpEv P T o env n g (.bool (decide p)) n .nil := k
theorem hS_bneq {t t' : TypeId} {x y : Operand} {N N2 : Prop} (k : Stp2 (RS P T ops (⟨dst, .binOp .neq t x y t', ty, pos, after, gd⟩ :: os) env n h Q) N N2) : Stp2 (RS P T ops (⟨dst, .binOp .neq t x y t', ty, pos, after, gd⟩ :: os) env n h Q) N N2 := k
theorem hD_bneq {t t' : TypeId} {x y : Operand} {N N2 : Prop} (k : Stp2 (RD P T ops ps (⟨dst, .binOp .neq t x y t', ty, pos, after, gd⟩ :: os) env n h Q) N N2) : Stp2 (RD P T ops ps (⟨dst, .binOp .neq t x y t', ty, pos, after, gd⟩ :: os) env n h Q) N N2 := k
theorem q2_bneq {o : Oper} {v : Value} (k : OpEv P T o env n g v n .nil := by first | (apply o_nenil; (first | exact Opd.const rfl | (apply Opd.tmp; (repeat apply Look.there rfl); exact Look.here) | exact Opd.func); exact Uc.out; rfl; rfl)) : OpEv P T o env n g v n .nil := k
theorem gS_blss {t t' : TypeId} {x y : Operand} {N : Prop} (k : Stp (RS P T ops (⟨dst, .binOp .lss t x y t', ty, pos, after, gd⟩ :: os) env n h Q) N) : Stp (RS P T ops (⟨dst, .binOp .lss t x y t', ty, pos, after, gd⟩ :: os) env n h Q) N := k
theorem gD_blss {t t' : TypeId} {x y : Operand} {N : Prop} (k : Stp (RD P T ops ps (⟨dst, .binOp .lss t x y t', ty, pos, after, gd⟩ :: os) env n h Q) N) : Stp (RD P T ops ps (⟨dst, .binOp .lss t x y t', ty, pos, after, gd⟩ :: os) env n h Q) N := k
theorem q0_blss {o : Oper} {p : Prop} {dp : Decidable p} (k : OpEv P T o env n g (.bool (decide p)) n .nil := by first | (apply o_lss; (first | exact Opd.const rfl | (apply Opd.tmp; (repeat apply Look.there rfl); exact Look.here) | exact Opd.func); (first | exact Opd.const rfl | (apply Opd.tmp; (repeat apply Look.there rfl); exact Look.here) | exact Opd.func))) : OpEv P T o env n g (.bool (decide p)) n .nil := k
theorem hS_blss {t t' : TypeId} {x y : Operand} {N N2 : Prop} (k : Stp2 (RS P T ops (⟨dst, .binOp .lss t x y t', ty, pos, after, gd⟩ :: os) env n h Q) N N2) : Stp2 (RS P T ops (⟨dst, .binOp .lss t x y t', ty, pos, after, gd⟩ :: os) env n h Q) N N2 := k
theorem hD_blss {t t' : TypeId} {x y : Operand} {N N2 : Prop} (k : Stp2 (RD P T ops ps (⟨dst, .binOp .lss t x y t', ty, pos, after, gd⟩ :: os) env n h Q) N N2) : Stp2 (RD P T ops ps (⟨dst, .binOp .lss t x y t', ty, pos, after, gd⟩ :: os) env n h Q) N N2 := k
theorem gS_bleq {t t' : TypeId} {x y : Operand} {N : Prop} (k : Stp (RS P T ops (⟨dst, .binOp .leq t x y t', ty, pos, after, gd⟩ :: os) env n h Q) N) : Stp (RS P T ops (⟨dst, .binOp .leq t x y t', ty, pos, after, gd⟩ :: os) env n h Q) N := k
theorem gD_bleq {t t' : TypeId} {x y : Operand} {N : Prop} (k : Stp (RD P T ops ps (⟨dst, .binOp .leq t x y t', ty, pos, after, gd⟩ :: os) env n h Q) N) : Stp (RD P T ops ps (⟨dst, .binOp .leq t x y t', ty, pos, after, gd⟩ :: os) env n h Q) N := k
theorem q0_bleq {o : Oper} {p : Prop} {dp : Decidable p} (k : OpEv P T o env n g (.bool (decide p)) n .nil := by first | (apply o_leq; (first | exact Opd.const rfl | (apply Opd.tmp; (repeat apply Look.there rfl); exact Look.here) | exact Opd.func); (first | exact Opd.const rfl | (apply Opd.tmp; (repeat apply Look.there rfl); exact Look.here) | exact Opd.func))) : OpEv P T o env n g (.bool (decide p)) n .nil := k
theorem hS_bleq {t t' : TypeId} {x y : Operand} {N N2 : Prop} (k : Stp2 (RS P T ops (⟨dst, .binOp .leq t x y t', ty, pos, after, gd⟩ :: os) env n h Q) N N2) : Stp2 (RS P T ops (⟨dst, .binOp .leq t x y t', ty, pos, after, gd⟩ :: os) env n h Q) N N2 := k
theorem hD_bleq {t t' : TypeId} {x y : Operand} {N N2 : Prop} (k : Stp2 (RD P T ops ps (⟨dst, .binOp .leq t x y t', ty, pos, after, gd⟩ :: os) env n h Q) N N2) : Stp2 (RD P T ops ps (⟨dst, .binOp .leq t x y t', ty, pos, after, gd⟩ :: os) env n h Q) N N2 := k
theorem gS_bgtr {t t' : TypeId} {x y : Operand} {N : Prop} (k : Stp (RS P T ops (⟨dst, .binOp .gtr t x y t', ty, pos, after, gd⟩ :: os) env n h Q) N) : Stp (RS P T ops (⟨dst, .binOp .gtr t x y t', ty, pos, after, gd⟩ :: os) env n h Q) N := k
theorem gD_bgtr {t t' : TypeId} {x y : Operand} {N : Prop} (k : Stp (RD P T ops ps (⟨dst, .binOp .gtr t x y t', ty, pos, after, gd⟩ :: os) env n h Q) N) : Stp (RD P T ops ps (⟨dst, .binOp .gtr t x y t', ty, pos, after, gd⟩ :: os) env n h Q) N := k
theorem q0_bgtr {o : Oper} {p : Prop} {dp : Decidable p} (k : OpEv P T o env n g (.bool (decide p)) n .nil := by first | (apply o_gtr; (first | exact Opd.const rfl | (apply Opd.tmp; (repeat apply Look.there rfl); exact Look.here) | exact Opd.func); (first | exact Opd.const rfl | (apply Opd.tmp; (repeat apply Look.there rfl); exact Look.here) | exact Opd.func))) : OpEv P T o env n g (.bool (decide p)) n .nil := k
theorem hS_bgtr {t t' : TypeId} {x y : Operand} {N N2 : Prop} (k : Stp2 (RS P T ops (⟨dst, .binOp .gtr t x y t', ty, pos, after, gd⟩ :: os) env n h Q) N N2) : Stp2 (RS P T ops (⟨dst, .binOp .gtr t x y t', ty, pos, after, gd⟩ :: os) env n h Q) N N2 := k
theorem hD_bgtr {t t' : TypeId} {x y : Operand} {N N2 : Prop} (k : Stp2 (RD P T ops ps (⟨dst, .binOp .gtr t x y t', ty, pos, after, gd⟩ :: os) env n h Q) N N2) : Stp2 (RD P T ops ps (⟨dst, .binOp .gtr t x y t', ty, pos, after, gd⟩ :: os) env n h Q) N N2 := k
theorem gS_bgeq {t t' : TypeId} {x y : Operand} {N : Prop} (k : Stp (RS P T ops (⟨dst, .binOp .geq t x y t', ty, pos, after, gd⟩ :: os) env n h Q) N) : Stp (RS P T ops (⟨dst, .binOp .geq t x y t', ty, pos, after, gd⟩ :: os) env n h Q) N := k
theorem gD_bgeq {t t' : TypeId} {x y : Operand} {N : Prop} (k : Stp (RD P T ops ps (⟨dst, .binOp .geq t x y t', ty, pos, after, gd⟩ :: os) env n h Q) N) : Stp (RD P T ops ps (⟨dst, .binOp .geq t x y t', ty, pos, after, gd⟩ :: os) env n h Q) N := k
theorem q0_bgeq {o : Oper} {p : Prop} {dp : Decidable p} (k : OpEv P T o env n g (.bool (decide p)) n .nil := by first | (apply o_geq; (first | exact Opd.const rfl | (apply Opd.tmp; (repeat apply Look.there rfl); exact Look.here) | exact Opd.func); (first | exact Opd.const rfl | (apply Opd.tmp; (repeat apply Look.there rfl); exact Look.here) | exact Opd.func))) : OpEv P T o env n g (.bool (decide p)) n .nil := k
theorem hS_bgeq {t t' : TypeId} {x y : Operand} {N N2 : Prop} (k : Stp2 (RS P T ops (⟨dst, .binOp .geq t x y t', ty, pos, after, gd⟩ :: os) env n h Q) N N2) : Stp2 (RS P T ops (⟨dst, .binOp .geq t x y t', ty, pos, after, gd⟩ :: os) env n h Q) N N2 := k
theorem hD_bgeq {t t' : TypeId} {x y : Operand} {N N2 : Prop} (k : Stp2 (RD P T ops ps (⟨dst, .binOp .geq t x y t', ty, pos, after, gd⟩ :: os) env n h Q) N N2) : Stp2 (RD P T ops ps (⟨dst, .binOp .geq t x y t', ty, pos, after, gd⟩ :: os) env n h Q) N N2 := k
theorem gS_move {x : Operand} {N : Prop} (k : Stp (RS P T ops (⟨dst, .move x, ty, pos, after, gd⟩ :: os) env n h Q) N) : Stp (RS P T ops (⟨dst, .move x, ty, pos, after, gd⟩ :: os) env n h Q) N := k
theorem gD_move {x : Operand} {N : Prop} (k : Stp (RD P T ops ps (⟨dst, .move x, ty, pos, after, gd⟩ :: os) env n h Q) N) : Stp (RD P T ops ps (⟨dst, .move x, ty, pos, after, gd⟩ :: os) env n h Q) N := k
theorem q0_move {o : Oper} {v : Value} (k : OpEv P T o env n g v n .nil := by first | (apply o_move; (first | exact Opd.const rfl | (apply Opd.tmp; (repeat apply Look.there rfl); exact Look.here) | exact Opd.func))) : OpEv P T o env n g v n .nil := k
theorem gS_assign {x : Operand} {N : Prop} (k : Stp (RS P T ops (⟨dst, .assign x, ty, pos, after, gd⟩ :: os) env n h Q) N) : Stp (RS P T ops (⟨dst, .assign x, ty, pos, after, gd⟩ :: os) env n h Q) N := k
theorem gD_assign {x : Operand} {N : Prop} (k : Stp (RD P T ops ps (⟨dst, .assign x, ty, pos, after, gd⟩ :: os) env n h Q) N) : Stp (RD P T ops ps (⟨dst, .assign x, ty, pos, after, gd⟩ :: os) env n h Q) N := k
theorem q0_assign {o : Oper} {v : Value} (k : OpEv P T o env n g v n .nil := by first | (apply o_assign; (first | exact Opd.const rfl | (apply Opd.tmp; (repeat apply Look.there rfl); exact Look.here) | exact Opd.func))) : OpEv P T o env n g v n .nil := k
theorem gS_pick {x y z : Operand} {N : Prop} (k : Stp (RS P T ops (⟨dst, .pick x y z, ty, pos, after, gd⟩ :: os) env n h Q) N) : Stp (RS P T ops (⟨dst, .pick x y z, ty, pos, after, gd⟩ :: os) env n h Q) N := k
theorem gD_pick {x y z : Operand} {N : Prop} (k : Stp (RD P T ops ps (⟨dst, .pick x y z, ty, pos, after, gd⟩ :: os) env n h Q) N) : Stp (RD P T ops ps (⟨dst, .pick x y z, ty, pos, after, gd⟩ :: os) env n h Q) N := k
theorem q0_pick {o : Oper} {v : Value} (k : OpEv P T o env n g v n .nil := by first | (apply o_pickT; (first | exact Opd.const rfl | (apply Opd.tmp; (repeat apply Look.there rfl); exact Look.here) | exact Opd.func); (first | exact Opd.const rfl | (apply Opd.tmp; (repeat apply Look.there rfl); exact Look.here) | exact Opd.func)) | (apply o_pickF; (first | exact Opd.const rfl | (apply Opd.tmp; (repeat apply Look.there rfl); exact Look.here) | exact Opd.func); (first | exact Opd.const rfl | (apply Opd.tmp; (repeat apply Look.there rfl); exact Look.here) | exact Opd.func))) : OpEv P T o env n g v n .nil := k
theorem gS_callB {b : Builtin} {xs : Array Operand} {ts : Array TypeId} {N : Prop} (k : Stp (RS P T ops (⟨dst, .call { callee := .builtin b, args := xs, argTypes := ts }, ty, pos, after, gd⟩ :: os) env n h Q) N) : Stp (RS P T ops (⟨dst, .call { callee := .builtin b, args := xs, argTypes := ts }, ty, pos, after, gd⟩ :: os) env n h Q) N := k
theorem gD_callB {b : Builtin} {xs : Array Operand} {ts : Array TypeId} {N : Prop} (k : Stp (RD P T ops ps (⟨dst, .call { callee := .builtin b, args := xs, argTypes := ts }, ty, pos, after, gd⟩ :: os) env n h Q) N) : Stp (RD P T ops ps (⟨dst, .call { callee := .builtin b, args := xs, argTypes := ts }, ty, pos, after, gd⟩ :: os) env n h Q) N := k
theorem q0_callB {o : Oper} {v : Value} (k : OpEv P T o env n g v n .nil := by first | (apply o_len; (first | exact Opd.const rfl | (apply Opd.tmp; (repeat apply Look.there rfl); exact Look.here) | exact Opd.func); exact Uc.out) | (apply o_lenS; (first | exact Opd.const rfl | (apply Opd.tmp; (repeat apply Look.there rfl); exact Look.here) | exact Opd.func); exact Uc.out) | (apply o_min; (first | exact Opd.const rfl | (apply Opd.tmp; (repeat apply Look.there rfl); exact Look.here) | exact Opd.func); (first | exact Opd.const rfl | (apply Opd.tmp; (repeat apply Look.there rfl); exact Look.here) | exact Opd.func)) | (apply o_max; (first | exact Opd.const rfl | (apply Opd.tmp; (repeat apply Look.there rfl); exact Look.here) | exact Opd.func); (first | exact Opd.const rfl | (apply Opd.tmp; (repeat apply Look.there rfl); exact Look.here) | exact Opd.func))) : OpEv P T o env n g v n .nil := k
theorem gS_callV {z : Operand} {xs : Array Operand} {ts : Array TypeId} {N : Prop} (k : Stp (RS P T ops (⟨dst, .call { callee := .value z, args := xs, argTypes := ts }, ty, pos, after, gd⟩ :: os) env n h Q) N) : Stp (RS P T ops (⟨dst, .call { callee := .value z, args := xs, argTypes := ts }, ty, pos, after, gd⟩ :: os) env n h Q) N := k
theorem gD_callV {z : Operand} {xs : Array Operand} {ts : Array TypeId} {N : Prop} (k : Stp (RD P T ops ps (⟨dst, .call { callee := .value z, args := xs, argTypes := ts }, ty, pos, after, gd⟩ :: os) env n h Q) N) : Stp (RD P T ops ps (⟨dst, .call { callee := .value z, args := xs, argTypes := ts }, ty, pos, after, gd⟩ :: os) env n h Q) N := k
theorem gS_callI {z : Operand} {nm : String} {xs : Array Operand} {ts : Array TypeId} {N : Prop} (k : Stp (RS P T ops (⟨dst, .call { callee := .invoke z nm, args := xs, argTypes := ts }, ty, pos, after, gd⟩ :: os) env n h Q) N) : Stp (RS P T ops (⟨dst, .call { callee := .invoke z nm, args := xs, argTypes := ts }, ty, pos, after, gd⟩ :: os) env n h Q) N := k
theorem gD_callI {z : Operand} {nm : String} {xs : Array Operand} {ts : Array TypeId} {N : Prop} (k : Stp (RD P T ops ps (⟨dst, .call { callee := .invoke z nm, args := xs, argTypes := ts }, ty, pos, after, gd⟩ :: os) env n h Q) N) : Stp (RD P T ops ps (⟨dst, .call { callee := .invoke z nm, args := xs, argTypes := ts }, ty, pos, after, gd⟩ :: os) env n h Q) N := k
theorem gS_fieldAddr {t : TypeId} {x : Operand} {i : Nat} {N : Prop} (k : Stp (RS P T ops (⟨dst, .fieldAddr t x i, ty, pos, after, gd⟩ :: os) env n h Q) N) : Stp (RS P T ops (⟨dst, .fieldAddr t x i, ty, pos, after, gd⟩ :: os) env n h Q) N := k
theorem gD_fieldAddr {t : TypeId} {x : Operand} {i : Nat} {N : Prop} (k : Stp (RD P T ops ps (⟨dst, .fieldAddr t x i, ty, pos, after, gd⟩ :: os) env n h Q) N) : Stp (RD P T ops ps (⟨dst, .fieldAddr t x i, ty, pos, after, gd⟩ :: os) env n h Q) N := k
theorem q0_fieldAddr {o : Oper} {v : Value} (k : OpEv P T o env n g v n .nil := by first | (apply o_fieldAddrN; (first | exact Opd.const rfl | (apply Opd.tmp; (repeat apply Look.there rfl); exact Look.here) | exact Opd.func); (first | (simp only [Nat.zero_add, Nat.add_zero, Nat.reduceAdd, Nat.reduceMul, Nat.mul_one, Nat.one_mul, Int.reduceToNat, Int.toNat_natCast, Int.toNat_zero, Int.toNat_one]; rfl) | rfl))) : OpEv P T o env n g v n .nil := k
theorem gS_indexAddr {t : TypeId} {x y : Operand} {N : Prop} (k : Stp (RS P T ops (⟨dst, .indexAddr t x y, ty, pos, after, gd⟩ :: os) env n h Q) N) : Stp (RS P T ops (⟨dst, .indexAddr t x y, ty, pos, after, gd⟩ :: os) env n h Q) N := k
theorem gD_indexAddr {t : TypeId} {x y : Operand} {N : Prop} (k : Stp (RD P T ops ps (⟨dst, .indexAddr t x y, ty, pos, after, gd⟩ :: os) env n h Q) N) : Stp (RD P T ops ps (⟨dst, .indexAddr t x y, ty, pos, after, gd⟩ :: os) env n h Q) N := k
theorem q0_indexAddr {o : Oper} {v : Value} (k : OpEv P T o env n g v n .nil := by first | (apply o_index1; (first | exact Opd.const rfl | (apply Opd.tmp; (repeat apply Look.there rfl); exact Look.here) | exact Opd.func); (first | exact Opd.const rfl | (apply Opd.tmp; (repeat apply Look.there rfl); exact Look.here) | exact Opd.func); omega; omega) | (apply o_indexZ; (first | exact Opd.const rfl | (apply Opd.tmp; (repeat apply Look.there rfl); exact Look.here) | exact Opd.func); (first | exact Opd.const rfl | (apply Opd.tmp; (repeat apply Look.there rfl); exact Look.here) | exact Opd.func); omega; omega) | (apply o_indexU1; (first | exact Opd.const rfl | (apply Opd.tmp; (repeat apply Look.there rfl); exact Look.here) | exact Opd.func); (first | exact Opd.const rfl | (apply Opd.tmp; (repeat apply Look.there rfl); exact Look.here) | exact Opd.func); (first | assumption | exact SlR.sla (by assumption)); omega; omega) | (apply o_indexU; (first | exact Opd.const rfl | (apply Opd.tmp; (repeat apply Look.there rfl); exact Look.here) | exact Opd.func); (first | exact Opd.const rfl | (apply Opd.tmp; (repeat apply Look.there rfl); exact Look.here) | exact Opd.func); (first | assumption | exact SlR.sla (by assumption)); omega; omega) | (apply o_arrayAddrN; (first | exact Opd.const rfl | (apply Opd.tmp; (repeat apply Look.there rfl); exact Look.here) | exact Opd.func); (first | exact Opd.const rfl | (apply Opd.tmp; (repeat apply Look.there rfl); exact Look.here) | exact Opd.func); omega; omega; (first | (simp only [Nat.zero_add, Nat.add_zero, Nat.reduceAdd, Nat.reduceMul, Nat.mul_one, Nat.one_mul, Int.reduceToNat, Int.toNat_natCast, Int.toNat_zero, Int.toNat_one]; rfl) | rfl))) : OpEv P T o env n g v n .nil := k
theorem gS_index {t : TypeId} {x y : Operand} {N : Prop} (k : Stp (RS P T ops (⟨dst, .index t x y, ty, pos, after, gd⟩ :: os) env n h Q) N) : Stp (RS P T ops (⟨dst, .index t x y, ty, pos, after, gd⟩ :: os) env n h Q) N := k
theorem gD_index {t : TypeId} {x y : Operand} {N : Prop} (k : Stp (RD P T ops ps (⟨dst, .index t x y, ty, pos, after, gd⟩ :: os) env n h Q) N) : Stp (RD P T ops ps (⟨dst, .index t x y, ty, pos, after, gd⟩ :: os) env n h Q) N := k
theorem gS_nilCheck {x : Operand} {N : Prop} (k : Stp (RS P T ops (⟨dst, .nilCheck x, ty, pos, after, gd⟩ :: os) env n h Q) N) : Stp (RS P T ops (⟨dst, .nilCheck x, ty, pos, after, gd⟩ :: os) env n h Q) N := k
theorem gD_nilCheck {x : Operand} {N : Prop} (k : Stp (RD P T ops ps (⟨dst, .nilCheck x, ty, pos, after, gd⟩ :: os) env n h Q) N) : Stp (RD P T ops ps (⟨dst, .nilCheck x, ty, pos, after, gd⟩ :: os) env n h Q) N := k
theorem q0_nilCheck {o : Oper} {v : Value} (k : OpEv P T o env n g v n .nil := by first | (apply o_nilCheck; (first | exact Opd.const rfl | (apply Opd.tmp; (repeat apply Look.there rfl); exact Look.here) | exact Opd.func)) | (apply o_nilCheckI; (first | exact Opd.const rfl | (apply Opd.tmp; (repeat apply Look.there rfl); exact Look.here) | exact Opd.func)) | (apply o_nilCheckF; (first | exact Opd.const rfl | (apply Opd.tmp; (repeat apply Look.there rfl); exact Look.here) | exact Opd.func)) | (exact o_nilCheckM opd)) : OpEv P T o env n g v n .nil := k
theorem gS_unOp {u : UnOp} {t : TypeId} {x : Operand} {N : Prop} (k : Stp (RS P T ops (⟨dst, .unOp u t x, ty, pos, after, gd⟩ :: os) env n h Q) N) : Stp (RS P T ops (⟨dst, .unOp u t x, ty, pos, after, gd⟩ :: os) env n h Q) N := k
theorem gD_unOp {u : UnOp} {t : TypeId} {x : Operand} {N : Prop} (k : Stp (RD P T ops ps (⟨dst, .unOp u t x, ty, pos, after, gd⟩ :: os) env n h Q) N) : Stp (RD P T ops ps (⟨dst, .unOp u t x, ty, pos, after, gd⟩ :: os) env n h Q) N := k
theorem q0_unOp {o : Oper} {v : Value} (k : OpEv P T o env n g v n .nil := by first | (apply o_notT; (first | exact Opd.const rfl | (apply Opd.tmp; (repeat apply Look.there rfl); exact Look.here) | exact Opd.func)) | (apply o_notF; (first | exact Opd.const rfl | (apply Opd.tmp; (repeat apply Look.there rfl); exact Look.here) | exact Opd.func)) | (apply o_not; (first | exact Opd.const rfl | (apply Opd.tmp; (repeat apply Look.there rfl); exact Look.here) | exact Opd.func)) | (apply o_compl_u8; (first | exact Opd.const rfl | (apply Opd.tmp; (repeat apply Look.there rfl); exact Look.here) | exact Opd.func); (first | omega | exact Int.natCast_nonneg _); (first | omega | exact u8lt | (apply nat_shr_lt; omega) | (apply nat_and_lt; omega) | (apply nat_and_lt2; omega))) | (apply o_compl_u16; (first | exact Opd.const rfl | (apply Opd.tmp; (repeat apply Look.there rfl); exact Look.here) | exact Opd.func); (first | omega | exact Int.natCast_nonneg _); (first | omega | exact u8lt | (apply nat_shr_lt; omega) | (apply nat_and_lt; omega) | (apply nat_and_lt2; omega))) | (apply o_compl_u32; (first | exact Opd.const rfl | (apply Opd.tmp; (repeat apply Look.there rfl); exact Look.here) | exact Opd.func); (first | omega | exact Int.natCast_nonneg _); (first | omega | exact u8lt | (apply nat_shr_lt; omega) | (apply nat_and_lt; omega) | (apply nat_and_lt2; omega))) | (apply o_compl_u64; (first | exact Opd.const rfl | (apply Opd.tmp; (repeat apply Look.there rfl); exact Look.here) | exact Opd.func); (first | omega | exact Int.natCast_nonneg _); (first | omega | exact u8lt | (apply nat_shr_lt; omega) | (apply nat_and_lt; omega) | (apply nat_and_lt2; omega))) | (apply o_neg64; (first | exact Opd.const rfl | (apply Opd.tmp; (repeat apply Look.there rfl); exact Look.here) | exact Opd.func); omega; omega) | (apply o_neg; (first | exact Opd.const rfl | (apply Opd.tmp; (repeat apply Look.there rfl); exact Look.here) | exact Opd.func)) | (apply o_compl; (first | exact Opd.const rfl | (apply Opd.tmp; (repeat apply Look.there rfl); exact Look.here) | exact Opd.func))) : OpEv P T o env n g v n .nil := k
theorem gS_extract {x : Operand} {i : Nat} {N : Prop} (k : Stp (RS P T ops (⟨dst, .extract x i, ty, pos, after, gd⟩ :: os) env n h Q) N) : Stp (RS P T ops (⟨dst, .extract x i, ty, pos, after, gd⟩ :: os) env n h Q) N := k
theorem gD_extract {x : Operand} {i : Nat} {N : Prop} (k : Stp (RD P T ops ps (⟨dst, .extract x i, ty, pos, after, gd⟩ :: os) env n h Q) N) : Stp (RD P T ops ps (⟨dst, .extract x i, ty, pos, after, gd⟩ :: os) env n h Q) N := k
theorem q0_extract {o : Oper} {v : Value} (k : OpEv P T o env n g v n .nil := by first | (apply o_extract; (first | exact Opd.const rfl | (apply Opd.tmp; (repeat apply Look.there rfl); exact Look.here) | exact Opd.func); rfl)) : OpEv P T o env n g v n .nil := k
theorem gS_iface {t : TypeId} {x : Operand} {N : Prop} (k : Stp (RS P T ops (⟨dst, .makeInterface t x, ty, pos, after, gd⟩ :: os) env n h Q) N) : Stp (RS P T ops (⟨dst, .makeInterface t x, ty, pos, after, gd⟩ :: os) env n h Q) N := k
theorem gD_iface {t : TypeId} {x : Operand} {N : Prop} (k : Stp (RD P T ops ps (⟨dst, .makeInterface t x, ty, pos, after, gd⟩ :: os) env n h Q) N) : Stp (RD P T ops ps (⟨dst, .makeInterface t x, ty, pos, after, gd⟩ :: os) env n h Q) N := k
theorem q0_iface {o : Oper} {v : Value} (k : OpEv P T o env n g v n .nil := by first | (exact o_iface opd Uc.out rfl)) : OpEv P T o env n g v n .nil := k
theorem gS_convert {s t : TypeId} {x : Operand} {N : Prop} (k : Stp (RS P T ops (⟨dst, .convert s t x, ty, pos, after, gd⟩ :: os) env n h Q) N) : Stp (RS P T ops (⟨dst, .convert s t x, ty, pos, after, gd⟩ :: os) env n h Q) N := k
theorem gD_convert {s t : TypeId} {x : Operand} {N : Prop} (k : Stp (RD P T ops ps (⟨dst, .convert s t x, ty, pos, after, gd⟩ :: os) env n h Q) N) : Stp (RD P T ops ps (⟨dst, .convert s t x, ty, pos, after, gd⟩ :: os) env n h Q) N := k
theorem q0_convert {o : Oper} {v : Value} (k : OpEv P T o env n g v n .nil := by first | (apply o_conv_u8; (first | exact Opd.const rfl | (apply Opd.tmp; (repeat apply Look.there rfl); exact Look.here) | exact Opd.func); (first | omega | exact Int.natCast_nonneg _); (first | omega | exact u8lt | (apply nat_shr_lt; omega) | (apply nat_and_lt; omega) | (apply nat_and_lt2; omega))) | (apply o_conv_u16; (first | exact Opd.const rfl | (apply Opd.tmp; (repeat apply Look.there rfl); exact Look.here) | exact Opd.func); (first | omega | exact Int.natCast_nonneg _); (first | omega | exact u8lt | (apply nat_shr_lt; omega) | (apply nat_and_lt; omega) | (apply nat_and_lt2; omega))) | (apply o_conv_u32; (first | exact Opd.const rfl | (apply Opd.tmp; (repeat apply Look.there rfl); exact Look.here) | exact Opd.func); (first | omega | exact Int.natCast_nonneg _); (first | omega | exact u8lt | (apply nat_shr_lt; omega) | (apply nat_and_lt; omega) | (apply nat_and_lt2; omega))) | (apply o_conv_u64; (first | exact Opd.const rfl | (apply Opd.tmp; (repeat apply Look.there rfl); exact Look.here) | exact Opd.func); (first | omega | exact Int.natCast_nonneg _); (first | omega | exact u8lt | (apply nat_shr_lt; omega) | (apply nat_and_lt; omega) | (apply nat_and_lt2; omega))) | (apply o_conv_i64; (first | exact Opd.const rfl | (apply Opd.tmp; (repeat apply Look.there rfl); exact Look.here) | exact Opd.func); omega; omega) | (apply o_conv_i32; (first | exact Opd.const rfl | (apply Opd.tmp; (repeat apply Look.there rfl); exact Look.here) | exact Opd.func); omega; omega) | (apply o_convM_u8; (first | exact Opd.const rfl | (apply Opd.tmp; (repeat apply Look.there rfl); exact Look.here) | exact Opd.func)) | (apply o_convM_u16; (first | exact Opd.const rfl | (apply Opd.tmp; (repeat apply Look.there rfl); exact Look.here) | exact Opd.func)) | (apply o_convM_u32; (first | exact Opd.const rfl | (apply Opd.tmp; (repeat apply Look.there rfl); exact Look.here) | exact Opd.func)) | (apply o_convM_u64; (first | exact Opd.const rfl | (apply Opd.tmp; (repeat apply Look.there rfl); exact Look.here) | exact Opd.func)) | (apply o_conv; exact Uc.out; exact Uc.out; (first | exact Opd.const rfl | (apply Opd.tmp; (repeat apply Look.there rfl); exact Look.here) | exact Opd.func))) : OpEv P T o env n g v n .nil := k
theorem q1_convert {o : Oper} {v : Value} (k : OpEv P T o env n g v n .nil := by first | (apply o_b2sR; (first | exact Opd.const rfl | (apply Opd.tmp; (repeat apply Look.there rfl); exact Look.here) | exact Opd.func); (first | assumption | exact SlR.sla (by assumption)); (first | assumption | (apply r_only; first | assumption | (apply SlB.rd; assumption; (focus ((repeat (first | assumption | exact Ext.refl _ _ | (refine Ext.via (by assumption) (by omega) ?_) | apply Ext.appNew (by omega) | apply Ext.appSets (by omega) | apply Ext.appTake (by omega) (by omega) | apply Ext.below (by omega) | apply Ext.appObj (by omega) | (refine Ext.viaW (by assumption) (by omega) (by intro x hx; first | omega | (dsimp only at hx; omega)) ?_))); (first | done | fail))))) | (apply SlB.rd; assumption; (focus ((repeat (first | assumption | exact Ext.refl _ _ | (refine Ext.via (by assumption) (by omega) ?_) | apply Ext.appNew (by omega) | apply Ext.appSets (by omega) | apply Ext.appTake (by omega) (by omega) | apply Ext.below (by omega) | apply Ext.appObj (by omega) | (refine Ext.viaW (by assumption) (by omega) (by intro x hx; first | omega | (dsimp only at hx; omega)) ?_))); (first | done | fail))))))) : OpEv P T o env n g v n .nil := k
theorem q2_convert {o : Oper} {v : Value} {m : Meta} {cs : List Value} (k : OpEv P T o env n g v (n + 1) (.new n m cs) := by first | (apply o_s2b; (first | exact Opd.const rfl | (apply Opd.tmp; (repeat apply Look.there rfl); exact Look.here) | exact Opd.func))) : OpEv P T o env n g v (n + 1) (.new n m cs) := k
theorem gS_build {t : TypeId} {qs : Array (Nat × Operand)} {N : Prop} (k : Stp (RS P T ops (⟨dst, .build t qs, ty, pos, after, gd⟩ :: os) env n h Q) N) : Stp (RS P T ops (⟨dst, .build t qs, ty, pos, after, gd⟩ :: os) env n h Q) N := k
theorem gD_build {t : TypeId} {qs : Array (Nat × Operand)} {N : Prop} (k : Stp (RD P T ops ps (⟨dst, .build t qs, ty, pos, after, gd⟩ :: os) env n h Q) N) : Stp (RD P T ops ps (⟨dst, .build t qs, ty, pos, after, gd⟩ :: os) env n h Q) N := k
theorem q0_build {o : Oper} {v : Value} (k : OpEv P T o env n g v n .nil := by first | (apply o_buildP; (focus ((repeat (first | exact Prts.nil | apply Prts.cons (by first | exact Opd.const rfl | (apply Opd.tmp; (repeat apply Look.there rfl); exact Look.here) | exact Opd.func))); (first | done | fail))); rfl; (focus ((repeat (first | exact Bl.nil | (apply Bl.one; rfl; rfl; rfl; (simp only [List.set_cons_zero, List.set_cons_succ]; rfl)) | (apply Bl.agg; rfl; rfl; rfl; (simp only [List.take_succ_cons, List.take_zero, List.drop_succ_cons, List.drop_zero, List.nil_append, List.cons_append]; rfl)))); (first | done | fail))))) : OpEv P T o env n g v n .nil := k
theorem gS_field {t : TypeId} {x : Operand} {i : Nat} {N : Prop} (k : Stp (RS P T ops (⟨dst, .field t x i, ty, pos, after, gd⟩ :: os) env n h Q) N) : Stp (RS P T ops (⟨dst, .field t x i, ty, pos, after, gd⟩ :: os) env n h Q) N := k
theorem gD_field {t : TypeId} {x : Operand} {i : Nat} {N : Prop} (k : Stp (RD P T ops ps (⟨dst, .field t x i, ty, pos, after, gd⟩ :: os) env n h Q) N) : Stp (RD P T ops ps (⟨dst, .field t x i, ty, pos, after, gd⟩ :: os) env n h Q) N := k
theorem gS_func {f : Fn} {a b : Array Operand} {N : Prop} (k : Stp (RS P T ops (⟨dst, .makeFunc f a b, ty, pos, after, gd⟩ :: os) env n h Q) N) : Stp (RS P T ops (⟨dst, .makeFunc f a b, ty, pos, after, gd⟩ :: os) env n h Q) N := k
theorem gD_func {f : Fn} {a b : Array Operand} {N : Prop} (k : Stp (RD P T ops ps (⟨dst, .makeFunc f a b, ty, pos, after, gd⟩ :: os) env n h Q) N) : Stp (RD P T ops ps (⟨dst, .makeFunc f a b, ty, pos, after, gd⟩ :: os) env n h Q) N := k
theorem q0_func {o : Oper} {v : Value} (k : OpEv P T o env n g v n .nil := by first | (apply o_func; (focus ((repeat (first | exact Opds.nil | apply Opds.cons (by first | exact Opd.const rfl | (apply Opd.tmp; (repeat apply Look.there rfl); exact Look.here) | exact Opd.func))); (first | done | fail)))) | (apply o_meth; (first | exact Opd.const rfl | (apply Opd.tmp; (repeat apply Look.there rfl); exact Look.here) | exact Opd.func))) : OpEv P T o env n g v n .nil := k
theorem gS_load {t : TypeId} {x : Operand} {N : Prop} (k : Stp (RS P T ops (⟨dst, .load t x, ty, pos, after, gd⟩ :: os) env n h Q) N) : Stp (RS P T ops (⟨dst, .load t x, ty, pos, after, gd⟩ :: os) env n h Q) N := k
theorem gD_load {t : TypeId} {x : Operand} {N : Prop} (k : Stp (RD P T ops ps (⟨dst, .load t x, ty, pos, after, gd⟩ :: os) env n h Q) N) : Stp (RD P T ops ps (⟨dst, .load t x, ty, pos, after, gd⟩ :: os) env n h Q) N := k
theorem q0_load {o : Oper} {v : Value} (k : OpEv P T o env n g v n .nil := by first | (apply o_load; (first | exact Opd.const rfl | (apply Opd.tmp; (repeat apply Look.there rfl); exact Look.here) | exact Opd.func); exact Tc.out; rfl; (focus ((repeat (first | assumption | exact c_new (by rfl) | exact c_in (by omega) (by rfl) | (apply SlR.at; assumption; (focus ((repeat (first | assumption | exact Ext.refl _ _ | (refine Ext.via (by assumption) (by omega) ?_) | apply Ext.appNew (by omega) | apply Ext.appSets (by omega) | apply Ext.appTake (by omega) (by omega) | apply Ext.below (by omega) | apply Ext.appObj (by omega) | (refine Ext.viaW (by assumption) (by omega) (by intro x hx; first | omega | (dsimp only at hx; omega)) ?_))); (first | done | fail))); omega) | (apply SlR.atc; assumption; (focus ((repeat (first | assumption | exact Ext.refl _ _ | (refine Ext.via (by assumption) (by omega) ?_) | apply Ext.appNew (by omega) | apply Ext.appSets (by omega) | apply Ext.appTake (by omega) (by omega) | apply Ext.below (by omega) | apply Ext.appObj (by omega) | (refine Ext.viaW (by assumption) (by omega) (by intro x hx; first | omega | (dsimp only at hx; omega)) ?_))); (first | done | fail))); omega) | apply c_new_ne (by omega) | apply c_ext (by assumption) (by omega) | apply c_extX (by assumption) (by omega) (by first | assumption | omega | exact Or.inl rfl | (right; simp only [sb, Option.map_some, Option.getD_some]; omega)) | apply c_obj | apply c_extW (by assumption) (by omega) (by first | assumption | omega | (dsimp only; omega) | (intro hx; dsimp only at hx; omega)) | apply c_out (by simp only [List.length_cons, List.length_nil]; omega) | apply c_only | apply c_below (by omega) | exact c_take (by rfl) | apply c_take_ne (by omega) (by omega))); (first | done | fail))); (intro h; cases h)) | (apply o_loadAgg; (first | exact Opd.const rfl | (apply Opd.tmp; (repeat apply Look.there rfl); exact Look.here) | exact Opd.func); exact Tc.out; rfl; decide; (focus ((repeat (first | exact rd_nil | apply r_only | apply rd_cons (by ((repeat (first | assumption | exact c_new (by rfl) | exact c_in (by omega) (by rfl) | (apply SlR.at; assumption; (focus ((repeat (first | assumption | exact Ext.refl _ _ | (refine Ext.via (by assumption) (by omega) ?_) | apply Ext.appNew (by omega) | apply Ext.appSets (by omega) | apply Ext.appTake (by omega) (by omega) | apply Ext.below (by omega) | apply Ext.appObj (by omega) | (refine Ext.viaW (by assumption) (by omega) (by intro x hx; first | omega | (dsimp only at hx; omega)) ?_))); (first | done | fail))); omega) | (apply SlR.atc; assumption; (focus ((repeat (first | assumption | exact Ext.refl _ _ | (refine Ext.via (by assumption) (by omega) ?_) | apply Ext.appNew (by omega) | apply Ext.appSets (by omega) | apply Ext.appTake (by omega) (by omega) | apply Ext.below (by omega) | apply Ext.appObj (by omega) | (refine Ext.viaW (by assumption) (by omega) (by intro x hx; first | omega | (dsimp only at hx; omega)) ?_))); (first | done | fail))); omega) | apply c_new_ne (by omega) | apply c_ext (by assumption) (by omega) | apply c_extX (by assumption) (by omega) (by first | assumption | omega | exact Or.inl rfl | (right; simp only [sb, Option.map_some, Option.getD_some]; omega)) | apply c_obj | apply c_extW (by assumption) (by omega) (by first | assumption | omega | (dsimp only; omega) | (intro hx; dsimp only at hx; omega)) | apply c_out (by simp only [List.length_cons, List.length_nil]; omega) | apply c_only | apply c_below (by omega) | exact c_take (by rfl) | apply c_take_ne (by omega) (by omega))); (first | done | fail))))); (first | done | fail))); rfl)) : OpEv P T o env n g v n .nil := k
theorem gS_slice {t : TypeId} {x : Operand} {lo hi mx : Option Operand} {N : Prop} (k : Stp (RS P T ops (⟨dst, .slice t x lo hi mx, ty, pos, after, gd⟩ :: os) env n h Q) N) : Stp (RS P T ops (⟨dst, .slice t x lo hi mx, ty, pos, after, gd⟩ :: os) env n h Q) N := k
theorem gD_slice {t : TypeId} {x : Operand} {lo hi mx : Option Operand} {N : Prop} (k : Stp (RD P T ops ps (⟨dst, .slice t x lo hi mx, ty, pos, after, gd⟩ :: os) env n h Q) N) : Stp (RD P T ops ps (⟨dst, .slice t x lo hi mx, ty, pos, after, gd⟩ :: os) env n h Q) N := k
theorem q0_slice {o : Oper} {v : Value} (k : OpEv P T o env n g v n .nil := by first | (apply o_sliceT; (first | exact Opd.const rfl | (apply Opd.tmp; (repeat apply Look.there rfl); exact Look.here) | exact Opd.func); (first | assumption | (apply SlI.ofS; assumption; (focus ((repeat (first | assumption | exact Ext.refl _ _ | (refine Ext.via (by assumption) (by omega) ?_) | apply Ext.appNew (by omega) | apply Ext.appSets (by omega) | apply Ext.appTake (by omega) (by omega) | apply Ext.below (by omega) | apply Ext.appObj (by omega) | (refine Ext.viaW (by assumption) (by omega) (by intro x hx; first | omega | (dsimp only at hx; omega)) ?_))); (first | done | fail)))) | (apply SlI.only; apply SlI.ofS; assumption; (focus ((repeat (first | assumption | exact Ext.refl _ _ | (refine Ext.via (by assumption) (by omega) ?_) | apply Ext.appNew (by omega) | apply Ext.appSets (by omega) | apply Ext.appTake (by omega) (by omega) | apply Ext.below (by omega) | apply Ext.appObj (by omega) | (refine Ext.viaW (by assumption) (by omega) (by intro x hx; first | omega | (dsimp only at hx; omega)) ?_))); (first | done | fail)))) | (apply SlI.of; assumption; (focus ((repeat (first | assumption | exact Ext.refl _ _ | (refine Ext.via (by assumption) (by omega) ?_) | apply Ext.appNew (by omega) | apply Ext.appSets (by omega) | apply Ext.appTake (by omega) (by omega) | apply Ext.below (by omega) | apply Ext.appObj (by omega) | (refine Ext.viaW (by assumption) (by omega) (by intro x hx; first | omega | (dsimp only at hx; omega)) ?_))); (first | done | fail)))) | (apply SlI.only; first | assumption | (apply SlI.of; assumption; (focus ((repeat (first | assumption | exact Ext.refl _ _ | (refine Ext.via (by assumption) (by omega) ?_) | apply Ext.appNew (by omega) | apply Ext.appSets (by omega) | apply Ext.appTake (by omega) (by omega) | apply Ext.below (by omega) | apply Ext.appObj (by omega) | (refine Ext.viaW (by assumption) (by omega) (by intro x hx; first | omega | (dsimp only at hx; omega)) ?_))); (first | done | fail)))))); (first | exact bound.lo0 | exact bound.hiN | (apply bound.someT; (first | exact Opd.const rfl | (apply Opd.tmp; (repeat apply Look.there rfl); exact Look.here)); omega)); omega) | (apply o_sliceI1; (first | exact Opd.const rfl | (apply Opd.tmp; (repeat apply Look.there rfl); exact Look.here) | exact Opd.func); (first | assumption | (apply SlI.ofS; assumption; (focus ((repeat (first | assumption | exact Ext.refl _ _ | (refine Ext.via (by assumption) (by omega) ?_) | apply Ext.appNew (by omega) | apply Ext.appSets (by omega) | apply Ext.appTake (by omega) (by omega) | apply Ext.below (by omega) | apply Ext.appObj (by omega) | (refine Ext.viaW (by assumption) (by omega) (by intro x hx; first | omega | (dsimp only at hx; omega)) ?_))); (first | done | fail)))) | (apply SlI.only; apply SlI.ofS; assumption; (focus ((repeat (first | assumption | exact Ext.refl _ _ | (refine Ext.via (by assumption) (by omega) ?_) | apply Ext.appNew (by omega) | apply Ext.appSets (by omega) | apply Ext.appTake (by omega) (by omega) | apply Ext.below (by omega) | apply Ext.appObj (by omega) | (refine Ext.viaW (by assumption) (by omega) (by intro x hx; first | omega | (dsimp only at hx; omega)) ?_))); (first | done | fail)))) | (apply SlI.of; assumption; (focus ((repeat (first | assumption | exact Ext.refl _ _ | (refine Ext.via (by assumption) (by omega) ?_) | apply Ext.appNew (by omega) | apply Ext.appSets (by omega) | apply Ext.appTake (by omega) (by omega) | apply Ext.below (by omega) | apply Ext.appObj (by omega) | (refine Ext.viaW (by assumption) (by omega) (by intro x hx; first | omega | (dsimp only at hx; omega)) ?_))); (first | done | fail)))) | (apply SlI.only; first | assumption | (apply SlI.of; assumption; (focus ((repeat (first | assumption | exact Ext.refl _ _ | (refine Ext.via (by assumption) (by omega) ?_) | apply Ext.appNew (by omega) | apply Ext.appSets (by omega) | apply Ext.appTake (by omega) (by omega) | apply Ext.below (by omega) | apply Ext.appObj (by omega) | (refine Ext.viaW (by assumption) (by omega) (by intro x hx; first | omega | (dsimp only at hx; omega)) ?_))); (first | done | fail)))))); (first | exact bound.lo0 | exact bound.hiN | (apply bound.someT; (first | exact Opd.const rfl | (apply Opd.tmp; (repeat apply Look.there rfl); exact Look.here)); omega)); (first | exact bound.lo0 | exact bound.hiN | (apply bound.someT; (first | exact Opd.const rfl | (apply Opd.tmp; (repeat apply Look.there rfl); exact Look.here)); omega)); omega; omega) | (apply o_sliceI; (first | exact Opd.const rfl | (apply Opd.tmp; (repeat apply Look.there rfl); exact Look.here) | exact Opd.func); (first | assumption | (apply SlI.ofS; assumption; (focus ((repeat (first | assumption | exact Ext.refl _ _ | (refine Ext.via (by assumption) (by omega) ?_) | apply Ext.appNew (by omega) | apply Ext.appSets (by omega) | apply Ext.appTake (by omega) (by omega) | apply Ext.below (by omega) | apply Ext.appObj (by omega) | (refine Ext.viaW (by assumption) (by omega) (by intro x hx; first | omega | (dsimp only at hx; omega)) ?_))); (first | done | fail)))) | (apply SlI.only; apply SlI.ofS; assumption; (focus ((repeat (first | assumption | exact Ext.refl _ _ | (refine Ext.via (by assumption) (by omega) ?_) | apply Ext.appNew (by omega) | apply Ext.appSets (by omega) | apply Ext.appTake (by omega) (by omega) | apply Ext.below (by omega) | apply Ext.appObj (by omega) | (refine Ext.viaW (by assumption) (by omega) (by intro x hx; first | omega | (dsimp only at hx; omega)) ?_))); (first | done | fail)))) | (apply SlI.of; assumption; (focus ((repeat (first | assumption | exact Ext.refl _ _ | (refine Ext.via (by assumption) (by omega) ?_) | apply Ext.appNew (by omega) | apply Ext.appSets (by omega) | apply Ext.appTake (by omega) (by omega) | apply Ext.below (by omega) | apply Ext.appObj (by omega) | (refine Ext.viaW (by assumption) (by omega) (by intro x hx; first | omega | (dsimp only at hx; omega)) ?_))); (first | done | fail)))) | (apply SlI.only; first | assumption | (apply SlI.of; assumption; (focus ((repeat (first | assumption | exact Ext.refl _ _ | (refine Ext.via (by assumption) (by omega) ?_) | apply Ext.appNew (by omega) | apply Ext.appSets (by omega) | apply Ext.appTake (by omega) (by omega) | apply Ext.below (by omega) | apply Ext.appObj (by omega) | (refine Ext.viaW (by assumption) (by omega) (by intro x hx; first | omega | (dsimp only at hx; omega)) ?_))); (first | done | fail)))))); (first | exact bound.lo0 | exact bound.hiN | (apply bound.someT; (first | exact Opd.const rfl | (apply Opd.tmp; (repeat apply Look.there rfl); exact Look.here)); omega)); (first | exact bound.lo0 | exact bound.hiN | (apply bound.someT; (first | exact Opd.const rfl | (apply Opd.tmp; (repeat apply Look.there rfl); exact Look.here)); omega)); omega; omega)) : OpEv P T o env n g v n .nil := k
theorem gS_alloc {t : TypeId} {N : Prop} (k : Stp (RS P T ops (⟨dst, .alloc t, ty, pos, after, gd⟩ :: os) env n h Q) N) : Stp (RS P T ops (⟨dst, .alloc t, ty, pos, after, gd⟩ :: os) env n h Q) N := k
theorem gD_alloc {t : TypeId} {N : Prop} (k : Stp (RD P T ops ps (⟨dst, .alloc t, ty, pos, after, gd⟩ :: os) env n h Q) N) : Stp (RD P T ops ps (⟨dst, .alloc t, ty, pos, after, gd⟩ :: os) env n h Q) N := k
theorem q0_alloc {o : Oper} {v : Value} {m : Meta} {cs : List Value} (k : OpEv P T o env n g v (n + 1) (.new n m cs) := by first | (apply o_alloc1; rfl; rfl) | (apply o_allocAgg; rfl; rfl)) : OpEv P T o env n g v (n + 1) (.new n m cs) := k
theorem gS_box {t : TypeId} {x : Operand} {N : Prop} (k : Stp (RS P T ops (⟨dst, .box t x, ty, pos, after, gd⟩ :: os) env n h Q) N) : Stp (RS P T ops (⟨dst, .box t x, ty, pos, after, gd⟩ :: os) env n h Q) N := k
theorem gD_box {t : TypeId} {x : Operand} {N : Prop} (k : Stp (RD P T ops ps (⟨dst, .box t x, ty, pos, after, gd⟩ :: os) env n h Q) N) : Stp (RD P T ops ps (⟨dst, .box t x, ty, pos, after, gd⟩ :: os) env n h Q) N := k
theorem q0_box {o : Oper} {v : Value} {m : Meta} {cs : List Value} (k : OpEv P T o env n g v (n + 1) (.new n m cs) := by first | (apply o_box1; (first | exact Opd.const rfl | (apply Opd.tmp; (repeat apply Look.there rfl); exact Look.here) | exact Opd.func); rfl; rfl) | (apply o_boxAgg; (first | exact Opd.const rfl | (apply Opd.tmp; (repeat apply Look.there rfl); exact Look.here) | exact Opd.func); rfl)) : OpEv P T o env n g v (n + 1) (.new n m cs) := k
theorem gS_makeSlice {t : TypeId} {x y : Operand} {N : Prop} (k : Stp (RS P T ops (⟨dst, .makeSlice t x y, ty, pos, after, gd⟩ :: os) env n h Q) N) : Stp (RS P T ops (⟨dst, .makeSlice t x y, ty, pos, after, gd⟩ :: os) env n h Q) N := k
theorem gD_makeSlice {t : TypeId} {x y : Operand} {N : Prop} (k : Stp (RD P T ops ps (⟨dst, .makeSlice t x y, ty, pos, after, gd⟩ :: os) env n h Q) N) : Stp (RD P T ops ps (⟨dst, .makeSlice t x y, ty, pos, after, gd⟩ :: os) env n h Q) N := k
theorem q0_makeSlice {o : Oper} {v : Value} {m : Meta} {cs : List Value} (k : OpEv P T o env n g v (n + 1) (.new n m cs) := by first | (apply o_makeSlice1; (first | exact Opd.const rfl | (apply Opd.tmp; (repeat apply Look.there rfl); exact Look.here) | exact Opd.func); (first | exact Opd.const rfl | (apply Opd.tmp; (repeat apply Look.there rfl); exact Look.here) | exact Opd.func); rfl; rfl; omega; omega; omega; omega) | (apply o_makeSliceZ; (first | exact Opd.const rfl | (apply Opd.tmp; (repeat apply Look.there rfl); exact Look.here) | exact Opd.func); (first | exact Opd.const rfl | (apply Opd.tmp; (repeat apply Look.there rfl); exact Look.here) | exact Opd.func); rfl; decide; rfl; omega; omega; omega; omega)) : OpEv P T o env n g v (n + 1) (.new n m cs) := k
theorem gS_buildSlice {t : TypeId} {m : Nat} {qs : Array (Nat × Operand)} {N : Prop} (k : Stp (RS P T ops (⟨dst, .buildSlice t m qs, ty, pos, after, gd⟩ :: os) env n h Q) N) : Stp (RS P T ops (⟨dst, .buildSlice t m qs, ty, pos, after, gd⟩ :: os) env n h Q) N := k
theorem gD_buildSlice {t : TypeId} {m : Nat} {qs : Array (Nat × Operand)} {N : Prop} (k : Stp (RD P T ops ps (⟨dst, .buildSlice t m qs, ty, pos, after, gd⟩ :: os) env n h Q) N) : Stp (RD P T ops ps (⟨dst, .buildSlice t m qs, ty, pos, after, gd⟩ :: os) env n h Q) N := k
theorem q0_buildSlice {o : Oper} {v : Value} {m : Meta} {cs : List Value} (k : OpEv P T o env n g v (n + 1) (.new n m cs) := by first | (apply o_buildSliceP; rfl; rfl; decide; (focus ((repeat (first | exact Prts.nil | apply Prts.cons (by first | exact Opd.const rfl | (apply Opd.tmp; (repeat apply Look.there rfl); exact Look.here) | exact Opd.func))); (first | done | fail))); rfl; rfl; (focus ((repeat (first | exact Cs.nil | apply Cs.one (by rfl) (by rfl) (by rfl) | apply Cs.agg (by rfl) (by rfl) | (simp only [List.nil_append, List.cons_append]; rfl))); (first | done | fail)))) | (apply o_buildSlice0; exact Uc.out; exact Tc.out)) : OpEv P T o env n g v (n + 1) (.new n m cs) := k
theorem gS_store {t : TypeId} {x y : Operand} {N : Prop} (k : Stp (RS P T ops (⟨dst, .store t x y, ty, pos, after, gd⟩ :: os) env n h Q) N) : Stp (RS P T ops (⟨dst, .store t x y, ty, pos, after, gd⟩ :: os) env n h Q) N := k
theorem gD_store {t : TypeId} {x y : Operand} {N : Prop} (k : Stp (RD P T ops ps (⟨dst, .store t x y, ty, pos, after, gd⟩ :: os) env n h Q) N) : Stp (RD P T ops ps (⟨dst, .store t x y, ty, pos, after, gd⟩ :: os) env n h Q) N := k
theorem q0_store {o : Oper} {v : Value} {b o' : Nat} {vs : List Value} (k : OpEv P T o env n g v n (.sets b o' vs) := by first | (apply o_store1; (first | exact Opd.const rfl | (apply Opd.tmp; (repeat apply Look.there rfl); exact Look.here) | exact Opd.func); (first | exact Opd.const rfl | (apply Opd.tmp; (repeat apply Look.there rfl); exact Look.here) | exact Opd.func); exact Tc.out; rfl; rfl; (focus ((repeat (first | assumption | exact i_new | exact i_take | apply i_ext (by assumption) (by omega) | apply i_extX (by assumption) (by omega) (by first | assumption | omega | exact Or.inl rfl | (right; simp only [sb, Option.map_some, Option.getD_some]; omega)) | apply i_new_ne (by omega) | apply i_sets | apply i_only | apply i_below (by omega) | apply i_take_ne (by omega) (by omega) | exact i_obj | apply i_obj_ne (by omega) | apply i_extW (by assumption) (by omega) (by first | assumption | omega | (dsimp only; omega) | (intro hx; dsimp only at hx; omega)))); (first | done | fail))); (first | omega | (dsimp only; omega) | exact Nat.le_of_ble_eq_true rfl); (first | omega | (dsimp only; omega) | exact Nat.le_of_ble_eq_true rfl); (first | exact Or.inl (Or.inr (by omega)) | exact Or.inr (by omega) | exact Or.inl (Or.inl (by assumption)) | exact Or.inl (Or.inl (by first | omega | (dsimp only; omega))) | exact Or.inl (by first | omega | (dsimp only; omega))); omega) | (apply o_storeAgg; (first | exact Opd.const rfl | (apply Opd.tmp; (repeat apply Look.there rfl); exact Look.here) | exact Opd.func); (first | exact Opd.const rfl | (apply Opd.tmp; (repeat apply Look.there rfl); exact Look.here) | exact Opd.func); exact Tc.out; rfl; rfl; (focus ((repeat (first | assumption | exact i_new | exact i_take | apply i_ext (by assumption) (by omega) | apply i_extX (by assumption) (by omega) (by first | assumption | omega | exact Or.inl rfl | (right; simp only [sb, Option.map_some, Option.getD_some]; omega)) | apply i_new_ne (by omega) | apply i_sets | apply i_only | apply i_below (by omega) | apply i_take_ne (by omega) (by omega) | exact i_obj | apply i_obj_ne (by omega) | apply i_extW (by assumption) (by omega) (by first | assumption | omega | (dsimp only; omega) | (intro hx; dsimp only at hx; omega)))); (first | done | fail))); (first | omega | (dsimp only; omega) | exact Nat.le_of_ble_eq_true rfl); (first | omega | (dsimp only; omega) | exact Nat.le_of_ble_eq_true rfl); (first | exact Or.inl (Or.inr (by omega)) | exact Or.inr (by omega) | exact Or.inl (Or.inl (by assumption)) | exact Or.inl (Or.inl (by first | omega | (dsimp only; omega))) | exact Or.inl (by first | omega | (dsimp only; omega))); omega)) : OpEv P T o env n g v n (.sets b o' vs) := k
theorem stp {G N : Prop} (x : N) (k : Stp G N := by first | (apply gS_any; first | exact ⟨RS.nil⟩ | (apply gS_badd; first | exact St.put q0_badd rfl rfl | exact St.omit rfl rfl) | (apply gS_bsub; first | exact St.put q0_bsub rfl rfl | exact St.omit rfl rfl) | (apply gS_bmul; first | exact St.put q0_bmul rfl rfl | exact St.omit rfl rfl) | (apply gS_bquo; first | exact St.put q0_bquo rfl rfl | exact St.omit rfl rfl) | (apply gS_brem; first | exact St.put q0_brem rfl rfl | exact St.omit rfl rfl) | (apply gS_band; first | exact St.put q0_band rfl rfl | exact St.omit rfl rfl) | (apply gS_bor; first | exact St.put q0_bor rfl rfl | exact St.omit rfl rfl) | (apply gS_bxor; first | exact St.put q0_bxor rfl rfl | exact St.omit rfl rfl) | (apply gS_bandNot; first | exact St.put q0_bandNot rfl rfl | exact St.omit rfl rfl) | (apply gS_bshl; first | exact St.put q0_bshl rfl rfl | exact St.omit rfl rfl) | (apply gS_bshr; first | exact St.put q0_bshr rfl rfl | exact St.omit rfl rfl) | (apply gS_beql; first | exact St.put q0_beql rfl rfl | exact St.decT q1_beql rfl rfl (by first | omega | decide) | exact St.decF q1_beql rfl rfl (by first | omega | decide) | exact St.put q2_beql rfl rfl | exact St.omit rfl rfl) | (apply gS_bneq; first | exact St.put q0_bneq rfl rfl | exact St.decT q1_bneq rfl rfl (by first | omega | decide) | exact St.decF q1_bneq rfl rfl (by first | omega | decide) | exact St.put q2_bneq rfl rfl | exact St.omit rfl rfl) | (apply gS_blss; first | exact St.decT q0_blss rfl rfl (by first | omega | decide) | exact St.decF q0_blss rfl rfl (by first | omega | decide) | exact St.omit rfl rfl) | (apply gS_bleq; first | exact St.decT q0_bleq rfl rfl (by first | omega | decide) | exact St.decF q0_bleq rfl rfl (by first | omega | decide) | exact St.omit rfl rfl) | (apply gS_bgtr; first | exact St.decT q0_bgtr rfl rfl (by first | omega | decide) | exact St.decF q0_bgtr rfl rfl (by first | omega | decide) | exact St.omit rfl rfl) | (apply gS_bgeq; first | exact St.decT q0_bgeq rfl rfl (by first | omega | decide) | exact St.decF q0_bgeq rfl rfl (by first | omega | decide) | exact St.omit rfl rfl) | (apply gS_move; first | exact St.put q0_move rfl rfl | exact St.omit rfl rfl) | (apply gS_assign; first | exact St.put q0_assign rfl rfl | exact St.omit rfl rfl) | (apply gS_pick; first | exact St.put q0_pick rfl rfl | exact St.omit rfl rfl) | (apply gS_callB; first | exact St.put q0_callB rfl rfl | exact St.omit rfl rfl) | (apply gS_callV; first | exact St.omit rfl rfl) | (apply gS_callI; first | exact St.omit rfl rfl) | (apply gS_fieldAddr; first | exact St.put q0_fieldAddr rfl rfl | exact St.omit rfl rfl) | (apply gS_indexAddr; first | exact St.put q0_indexAddr rfl rfl | exact St.omit rfl rfl) | (apply gS_index; first | exact St.put q0_index rfl rfl | exact St.omit rfl rfl) | (apply gS_nilCheck; first | exact St.put q0_nilCheck rfl rfl | exact St.omit rfl rfl) | (apply gS_unOp; first | exact St.put q0_unOp rfl rfl | exact St.omit rfl rfl) | (apply gS_extract; first | exact St.put q0_extract rfl rfl | exact St.omit rfl rfl) | (apply gS_iface; first | exact St.put q0_iface rfl rfl | exact St.omit rfl rfl) | (apply gS_convert; first | exact St.put q0_convert rfl rfl | exact St.put q1_convert rfl rfl | exact St.mem q2_convert rfl rfl | exact St.omit rfl rfl) | (apply gS_build; first | exact St.put q0_build rfl rfl | exact St.omit rfl rfl) | (apply gS_field; first | exact St.put q0_field rfl rfl | exact St.omit rfl rfl) | (apply gS_func; first | exact St.put q0_func rfl rfl | exact St.omit rfl rfl) | (apply gS_load; first | exact St.put q0_load rfl rfl | exact St.omit rfl rfl) | (apply gS_slice; first | exact St.put q0_slice rfl rfl | exact St.omit rfl rfl) | (apply gS_alloc; first | exact St.mem q0_alloc rfl rfl | exact St.omit rfl rfl) | (apply gS_box; first | exact St.mem q0_box rfl rfl | exact St.omit rfl rfl) | (apply gS_makeSlice; first | exact St.mem q0_makeSlice rfl rfl | exact St.omit rfl rfl) | (apply gS_buildSlice; first | exact St.mem q0_buildSlice rfl rfl | exact St.omit rfl rfl) | (apply gS_store; first | exact St.mem0 q0_store rfl rfl | exact St.omit0 rfl rfl)) | (apply gD_any; first | exact ⟨RD.nil⟩ | (apply gD_badd; first | exact Sd.put q0_badd rfl rfl | exact Sd.omit rfl rfl) | (apply gD_bsub; first | exact Sd.put q0_bsub rfl rfl | exact Sd.omit rfl rfl) | (apply gD_bmul; first | exact Sd.put q0_bmul rfl rfl | exact Sd.omit rfl rfl) | (apply gD_bquo; first | exact Sd.put q0_bquo rfl rfl | exact Sd.omit rfl rfl) | (apply gD_brem; first | exact Sd.put q0_brem rfl rfl | exact Sd.omit rfl rfl) | (apply gD_band; first | exact Sd.put q0_band rfl rfl | exact Sd.omit rfl rfl) | (apply gD_bor; first | exact Sd.put q0_bor rfl rfl | exact Sd.omit rfl rfl) | (apply gD_bxor; first | exact Sd.put q0_bxor rfl rfl | exact Sd.omit rfl rfl) | (apply gD_bandNot; first | exact Sd.put q0_bandNot rfl rfl | exact Sd.omit rfl rfl) | (apply gD_bshl; first | exact Sd.put q0_bshl rfl rfl | exact Sd.omit rfl rfl) | (apply gD_bshr; first | exact Sd.put q0_bshr rfl rfl | exact Sd.omit rfl rfl) | (apply gD_beql; first | exact Sd.put q0_beql rfl rfl | exact Sd.decT q1_beql rfl rfl (by first | omega | decide) | exact Sd.decF q1_beql rfl rfl (by first | omega | decide) | exact Sd.put q2_beql rfl rfl | exact Sd.omit rfl rfl) | (apply gD_bneq; first | exact Sd.put q0_bneq rfl rfl | exact Sd.decT q1_bneq rfl rfl (by first | omega | decide) | exact Sd.decF q1_bneq rfl rfl (by first | omega | decide) | exact Sd.put q2_bneq rfl rfl | exact Sd.omit rfl rfl) | (apply gD_blss; first | exact Sd.decT q0_blss rfl rfl (by first | omega | decide) | exact Sd.decF q0_blss rfl rfl (by first | omega | decide) | exact Sd.omit rfl rfl) | (apply gD_bleq; first | exact Sd.decT q0_bleq rfl rfl (by first | omega | decide) | exact Sd.decF q0_bleq rfl rfl (by first | omega | decide) | exact Sd.omit rfl rfl) | (apply gD_bgtr; first | exact Sd.decT q0_bgtr rfl rfl (by first | omega | decide) | exact Sd.decF q0_bgtr rfl rfl (by first | omega | decide) | exact Sd.omit rfl rfl) | (apply gD_bgeq; first | exact Sd.decT q0_bgeq rfl rfl (by first | omega | decide) | exact Sd.decF q0_bgeq rfl rfl (by first | omega | decide) | exact Sd.omit rfl rfl) | (apply gD_move; first | exact Sd.put q0_move rfl rfl | exact Sd.omit rfl rfl) | (apply gD_assign; first | exact Sd.put q0_assign rfl rfl | exact Sd.omit rfl rfl) | (apply gD_pick; first | exact Sd.put q0_pick rfl rfl | exact Sd.omit rfl rfl) | (apply gD_callB; first | exact Sd.put q0_callB rfl rfl | exact Sd.omit rfl rfl) | (apply gD_callV; first | exact Sd.omit rfl rfl) | (apply gD_callI; first | exact Sd.omit rfl rfl) | (apply gD_fieldAddr; first | exact Sd.put q0_fieldAddr rfl rfl | exact Sd.omit rfl rfl) | (apply gD_indexAddr; first | exact Sd.put q0_indexAddr rfl rfl | exact Sd.omit rfl rfl) | (apply gD_index; first | exact Sd.put q0_index rfl rfl | exact Sd.omit rfl rfl) | (apply gD_nilCheck; first | exact Sd.put q0_nilCheck rfl rfl | exact Sd.omit rfl rfl) | (apply gD_unOp; first | exact Sd.put q0_unOp rfl rfl | exact Sd.omit rfl rfl) | (apply gD_extract; first | exact Sd.put q0_extract rfl rfl | exact Sd.omit rfl rfl) | (apply gD_iface; first | exact Sd.put q0_iface rfl rfl | exact Sd.omit rfl rfl) | (apply gD_convert; first | exact Sd.put q0_convert rfl rfl | exact Sd.look q1_convert rfl rfl (by first | omega | (apply SlR.ltn; assumption; omega; omega) | (apply SlR.ltp; assumption; omega; omega)) cfl | exact Sd.make q2_convert rfl rfl | exact Sd.omit rfl rfl) | (apply gD_build; first | exact Sd.put q0_build rfl rfl | exact Sd.omit rfl rfl) | (apply gD_field; first | exact Sd.put q0_field rfl rfl | exact Sd.omit rfl rfl) | (apply gD_func; first | exact Sd.put q0_func rfl rfl | exact Sd.omit rfl rfl) | (apply gD_load; first | exact Sd.look q0_load rfl rfl (by first | omega | (apply SlR.ltn; assumption; omega; omega) | (apply SlR.ltp; assumption; omega; omega)) cfl | exact Sd.omit rfl rfl) | (apply gD_slice; first | exact Sd.look q0_slice rfl rfl (by first | omega | (apply SlR.ltn; assumption; omega; omega) | (apply SlR.ltp; assumption; omega; omega)) cfl | exact Sd.omit rfl rfl) | (apply gD_alloc; first | exact Sd.make q0_alloc rfl rfl | exact Sd.omit rfl rfl) | (apply gD_box; first | exact Sd.make q0_box rfl rfl | exact Sd.omit rfl rfl) | (apply gD_makeSlice; first | exact Sd.make q0_makeSlice rfl rfl | exact Sd.omit rfl rfl) | (apply gD_buildSlice; first | exact Sd.make q0_buildSlice rfl rfl | exact Sd.omit rfl rfl) | (apply gD_store; first | exact Sd.turn0 q0_store rfl rfl (by omega) cfs | exact Sd.omit0 rfl rfl)) | exact ⟨RC.seq⟩ | exact ⟨RC.region rfl⟩ | exact ⟨thenC.normal⟩ | exact ⟨thenC.ret⟩ | exact ⟨thenC.exit⟩ | exact ⟨RC.skip⟩ | exact ⟨RC.ret⟩ | exact ⟨RC.exit⟩ | (apply gC_cond; first | exact ⟨RC.condT opd⟩ | exact ⟨RC.condF opd⟩) | exact ⟨RC.blk⟩ | (apply gE_any; first | exact ⟨endC.one rfl rv⟩ | exact ⟨endC.two rfl rv rv⟩ | exact ⟨endC.three rfl rv rv rv⟩ | exact ⟨endC.none0 rfl⟩ | exact ⟨endC.noneN rfl⟩) | exact ⟨outC.normal⟩ | exact ⟨outC.ret⟩ | exact ⟨outC.same⟩ | exact ⟨outC.other rfl⟩ | exact ⟨nextC.ret⟩ | exact ⟨nextC.exit⟩ | (apply gA_any; exact ⟨assignC.normal info⟩) | exact ⟨roundE.mk'⟩ | (apply gR_any; first | exact ⟨roundC.normal info⟩ | exact ⟨roundC.ret info⟩ | exact ⟨roundC.exit info⟩) | (apply gC_draw; exact ⟨RC.draw (by kernel_rfl) (by kernel_rfl) rfl⟩)) : G := k.imp x
theorem stpS {G N : Prop} (x : N) (k : Stp G N := by first | (apply gS_any; first | exact ⟨RS.nil⟩ | (apply gS_badd; first | exact St.put q0_badd rfl rfl | exact St.omit rfl rfl) | (apply gS_bsub; first | exact St.put q0_bsub rfl rfl | exact St.omit rfl rfl) | (apply gS_bmul; first | exact St.put q0_bmul rfl rfl | exact St.omit rfl rfl) | (apply gS_bquo; first | exact St.put q0_bquo rfl rfl | exact St.omit rfl rfl) | (apply gS_brem; first | exact St.put q0_brem rfl rfl | exact St.omit rfl rfl) | (apply gS_band; first | exact St.put q0_band rfl rfl | exact St.omit rfl rfl) | (apply gS_bor; first | exact St.put q0_bor rfl rfl | exact St.omit rfl rfl) | (apply gS_bxor; first | exact St.put q0_bxor rfl rfl | exact St.omit rfl rfl) | (apply gS_bandNot; first | exact St.put q0_bandNot rfl rfl | exact St.omit rfl rfl) | (apply gS_bshl; first | exact St.put q0_bshl rfl rfl | exact St.omit rfl rfl) | (apply gS_bshr; first | exact St.put q0_bshr rfl rfl | exact St.omit rfl rfl) | (apply gS_beql; first | exact St.put q0_beql rfl rfl | exact St.decT q1_beql rfl rfl (by first | omega | decide) | exact St.decF q1_beql rfl rfl (by first | omega | decide) | exact St.put q2_beql rfl rfl | exact St.omit rfl rfl) | (apply gS_bneq; first | exact St.put q0_bneq rfl rfl | exact St.decT q1_bneq rfl rfl (by first | omega | decide) | exact St.decF q1_bneq rfl rfl (by first | omega | decide) | exact St.put q2_bneq rfl rfl | exact St.omit rfl rfl) | (apply gS_blss; first | exact St.decT q0_blss rfl rfl (by first | omega | decide) | exact St.decF q0_blss rfl rfl (by first | omega | decide) | exact St.omit rfl rfl) | (apply gS_bleq; first | exact St.decT q0_bleq rfl rfl (by first | omega | decide) | exact St.decF q0_bleq rfl rfl (by first | omega | decide) | exact St.omit rfl rfl) | (apply gS_bgtr; first | exact St.decT q0_bgtr rfl rfl (by first | omega | decide) | exact St.decF q0_bgtr rfl rfl (by first | omega | decide) | exact St.omit rfl rfl) | (apply gS_bgeq; first | exact St.decT q0_bgeq rfl rfl (by first | omega | decide) | exact St.decF q0_bgeq rfl rfl (by first | omega | decide) | exact St.omit rfl rfl) | (apply gS_move; first | exact St.put q0_move rfl rfl | exact St.omit rfl rfl) | (apply gS_assign; first | exact St.put q0_assign rfl rfl | exact St.omit rfl rfl) | (apply gS_pick; first | exact St.put q0_pick rfl rfl | exact St.omit rfl rfl) | (apply gS_callB; first | exact St.put q0_callB rfl rfl | exact St.omit rfl rfl) | (apply gS_callV; first | exact St.omit rfl rfl) | (apply gS_callI; first | exact St.omit rfl rfl) | (apply gS_fieldAddr; first | exact St.put q0_fieldAddr rfl rfl | exact St.omit rfl rfl) | (apply gS_indexAddr; first | exact St.put q0_indexAddr rfl rfl | exact St.omit rfl rfl) | (apply gS_index; first | exact St.put q0_index rfl rfl | exact St.omit rfl rfl) | (apply gS_nilCheck; first | exact St.put q0_nilCheck rfl rfl | exact St.omit rfl rfl) | (apply gS_unOp; first | exact St.put q0_unOp rfl rfl | exact St.omit rfl rfl) | (apply gS_extract; first | exact St.put q0_extract rfl rfl | exact St.omit rfl rfl) | (apply gS_iface; first | exact St.put q0_iface rfl rfl | exact St.omit rfl rfl) | (apply gS_convert; first | exact St.put q0_convert rfl rfl | exact St.put q1_convert rfl rfl | exact St.mem q2_convert rfl rfl | exact St.omit rfl rfl) | (apply gS_build; first | exact St.put q0_build rfl rfl | exact St.omit rfl rfl) | (apply gS_field; first | exact St.put q0_field rfl rfl | exact St.omit rfl rfl) | (apply gS_func; first | exact St.put q0_func rfl rfl | exact St.omit rfl rfl) | (apply gS_load; first | exact St.put q0_load rfl rfl | exact St.omit rfl rfl) | (apply gS_slice; first | exact St.put q0_slice rfl rfl | exact St.omit rfl rfl) | (apply gS_alloc; first | exact St.mem q0_alloc rfl rfl | exact St.omit rfl rfl) | (apply gS_box; first | exact St.mem q0_box rfl rfl | exact St.omit rfl rfl) | (apply gS_makeSlice; first | exact St.mem q0_makeSlice rfl rfl | exact St.omit rfl rfl) | (apply gS_buildSlice; first | exact St.mem q0_buildSlice rfl rfl | exact St.omit rfl rfl) | (apply gS_store; first | exact St.mem0 q0_store rfl rfl | exact St.omit0 rfl rfl)) | exact ⟨RC.seq⟩ | exact ⟨RC.region rfl⟩ | exact ⟨thenC.normal⟩ | exact ⟨thenC.ret⟩ | exact ⟨thenC.exit⟩ | exact ⟨RC.skip⟩ | exact ⟨RC.ret⟩ | exact ⟨RC.exit⟩ | (apply gC_cond; first | exact ⟨RC.condT opd⟩ | exact ⟨RC.condF opd⟩) | exact ⟨RC.blk⟩ | (apply gE_any; first | exact ⟨endC.one rfl rv⟩ | exact ⟨endC.two rfl rv rv⟩ | exact ⟨endC.three rfl rv rv rv⟩ | exact ⟨endC.none0 rfl⟩ | exact ⟨endC.noneN rfl⟩) | exact ⟨outC.normal⟩ | exact ⟨outC.ret⟩ | exact ⟨outC.same⟩ | exact ⟨outC.other rfl⟩ | exact ⟨nextC.ret⟩ | exact ⟨nextC.exit⟩ | (apply gA_any; exact ⟨assignC.normal info⟩) | exact ⟨roundE.mk'⟩ | (apply gR_any; first | exact ⟨roundC.normal info⟩ | exact ⟨roundC.ret info⟩ | exact ⟨roundC.exit info⟩)) : G := k.imp x
theorem stp2 {G N N2 : Prop} (x : N) (y : N2) (k : Stp2 G N N2 := by first | (apply hS_any; first | (apply hS_beql; exact St.dec q1_beql rfl rfl) | (apply hS_bneq; exact St.dec q1_bneq rfl rfl) | (apply hS_blss; exact St.dec q0_blss rfl rfl) | (apply hS_bleq; exact St.dec q0_bleq rfl rfl) | (apply hS_bgtr; exact St.dec q0_bgtr rfl rfl) | (apply hS_bgeq; exact St.dec q0_bgeq rfl rfl)) | (apply hD_any; first | (apply hD_beql; exact Sd.dec q1_beql rfl rfl) | (apply hD_bneq; exact Sd.dec q1_bneq rfl rfl) | (apply hD_blss; exact Sd.dec q0_blss rfl rfl) | (apply hD_bleq; exact Sd.dec q0_bleq rfl rfl) | (apply hD_bgtr; exact Sd.dec q0_bgtr rfl rfl) | (apply hD_bgeq; exact Sd.dec q0_bgeq rfl rfl))) : G := k.imp x y
end
end Go.Abs

/- What a program tells of its types, as the stepping finds it. -/
namespace Go.Abs
open Go.RowKit
theorem places_of {P : Program} : ∀ (fs : List Field) (ps : List (Nat × Nat)), fs.length = ps.length → (∀ (i : Nat) (f : Field) (p : Nat × Nat), fs[i]? = some f → ps[i]? = some p → f.offset = p.1 ∧ ∃ d by_ zv, TI P f.type d p.2 by_ zv) → ∀ w : World,
    (fs.toArray.mapM fun f => (do pure (f.offset, ← sizeOf f.type) : Sem (Nat × Nat))).run P w = .ok ps.toArray w := by
  intro fs ps hl h w
  rw [List.mapM_toArray, Sem.run_map]
  suffices key : (fs.mapM fun f => (do pure (f.offset, ← sizeOf f.type) : Sem (Nat × Nat))).run P w = .ok ps w by rw [key]; rfl
  induction fs generalizing ps with
  | nil => cases ps with
    | nil => rfl
    | cons => simp at hl
  | cons f fs ih =>
    cases ps with
    | nil => simp at hl
    | cons p ps =>
      obtain ⟨h1, d, by_, zv, h2⟩ := h 0 f p rfl rfl
      rw [List.mapM_cons]
      simp only [Sem.run_bind, h2.run_sizeOf, Result.andThen_ok, Sem.run_pure, ih ps (by simpa using hl) (fun i f p hf hp => h (i + 1) f p (by simpa using hf) (by simpa using hp))]
      rw [h1]
theorem Fc.mk' {P : Program} {s : TypeId} {i off z : Nat} {agg : Bool} {fs : Array Field} {f : Field} {d : TypeDesc} {by_ : Nat} {zv : Value} (hu : P.underlying s = some (.struct fs)) (hf : fs[i]? = some f) (ho : f.offset = off) (hz : TI P f.type d z by_ zv) (ha : isAggD d = agg) (h0 : z ≠ 0) : Fc P s i off z agg :=
  ⟨fs, f, d, by_, zv, hu, hf, ho, hz, ha, h0⟩
inductive Pls (P : Program) : List Field → List (Nat × Nat) → Prop
  | nil : Pls P [] []
  | cons {f fs off z ps d by_ zv} (ho : f.offset = off) (hz : TI P f.type d z by_ zv) (t : Pls P fs ps) : Pls P (f :: fs) ((off, z) :: ps)
theorem Pls.ok {P : Program} {fs ps} (h : Pls P fs ps) : fs.length = ps.length ∧ ∀ (i : Nat) (f : Field) (p : Nat × Nat), fs[i]? = some f → ps[i]? = some p → f.offset = p.1 ∧ ∃ d by_ zv, TI P f.type d p.2 by_ zv := by
  induction h with
  | nil => exact ⟨rfl, fun i f p h => by simp at h⟩
  | cons ho hz t ih =>
    refine ⟨by simp [ih.1], fun i f p hf hp => ?_⟩
    cases i with
    | zero => simp at hf hp; subst hf; subst hp; exact ⟨ho, _, _, _, hz⟩
    | succ i => exact ih.2 i f p (by simpa using hf) (by simpa using hp)
theorem Sc.mk' {P : Program} {s : TypeId} {places : List (Nat × Nat)} {zero : List Value} {fs : List Field} {z by_ : Nat} (hz : TI P s (.struct fs.toArray) z by_ (.agg zero.toArray)) (hf : zero.all (flat 8) = true) (h : Pls P fs places) : Sc P s places zero :=
  ⟨fs.toArray, z, by_, _, hz, by simpa [Value.cells] using hf, rfl, places_of fs places h.ok.1 h.ok.2⟩
end Go.Abs

/- What the program of the seat tells of its types (written by gen_ty.py). -/
namespace Go.Proofs.YtfbddbpbifnhfaaGreatDoor
open Go.Abs
instance : Mixed Tryz.prog := .mk (by kernel_rfl)
theorem ty2 : TI Tryz.prog 2 ((Go.TypeDesc.int Go.IntKind.i64)) 1 8 (.int .i64 0) := .of Tryz.underlying2 (by kernel_rfl)
instance : Tc Tryz.prog 2 ((Go.TypeDesc.int Go.IntKind.i64)) 1 8 (.int .i64 0) := .mk ty2
instance : Uc Tryz.prog 2 ((Go.TypeDesc.int Go.IntKind.i64)) := .mk Tryz.underlying2
theorem ty3 : TI Tryz.prog 3 ((Go.TypeDesc.int Go.IntKind.i64)) 1 8 (.int .i64 0) := .of Tryz.underlying3 (by kernel_rfl)
instance : Tc Tryz.prog 3 ((Go.TypeDesc.int Go.IntKind.i64)) 1 8 (.int .i64 0) := .mk ty3
instance : Uc Tryz.prog 3 ((Go.TypeDesc.int Go.IntKind.i64)) := .mk Tryz.underlying3
theorem ty4 : TI Tryz.prog 4 (Go.TypeDesc.bool) 1 1 (.bool false) := .of Tryz.underlying4 (by kernel_rfl)
instance : Tc Tryz.prog 4 (Go.TypeDesc.bool) 1 1 (.bool false) := .mk ty4
instance : Uc Tryz.prog 4 (Go.TypeDesc.bool) := .mk Tryz.underlying4
theorem ty5 : TI Tryz.prog 5 ((Go.TypeDesc.int Go.IntKind.u8)) 1 1 (.int .u8 0) := .of Tryz.underlying5 (by kernel_rfl)
instance : Tc Tryz.prog 5 ((Go.TypeDesc.int Go.IntKind.u8)) 1 1 (.int .u8 0) := .mk ty5
instance : Uc Tryz.prog 5 ((Go.TypeDesc.int Go.IntKind.u8)) := .mk Tryz.underlying5
instance : Uc Tryz.prog 6 ((Go.TypeDesc.int Go.IntKind.u8)) := .mk Tryz.underlying6
instance : Uc Tryz.prog 7 ((Go.TypeDesc.struct #[{ name := "x", type := 2, offset := 0, embedded := false, tag := "", pkgPath := "runtime", byteOffset := 0 }, { name := "y", type := 3, offset := 1, embedded := false, tag := "", pkgPath := "runtime", byteOffset := 8 }, { name := "signed", type := 4, offset := 2, embedded := false, tag := "", pkgPath := "runtime", byteOffset := 16 }, { name := "code", type := 6, offset := 3, embedded := false, tag := "", pkgPath := "runtime", byteOffset := 17 }])) := .mk Tryz.underlying7
instance : Uc Tryz.prog 9 (Go.TypeDesc.string) := .mk Tryz.underlying9
instance : Uc Tryz.prog 21 ((Go.TypeDesc.int Go.IntKind.i32)) := .mk Tryz.underlying21
instance : Uc Tryz.prog 22 ((Go.TypeDesc.slice 37)) := .mk Tryz.underlying22
instance : Uc Tryz.prog 23 ((Go.TypeDesc.pointer 31)) := .mk Tryz.underlying23
theorem ty24 : TI Tryz.prog 24 ((Go.TypeDesc.pointer 50)) 1 8 (.pointer none) := .of Tryz.underlying24 (by kernel_rfl)
instance : Tc Tryz.prog 24 ((Go.TypeDesc.pointer 50)) 1 8 (.pointer none) := .mk ty24
instance : Uc Tryz.prog 24 ((Go.TypeDesc.pointer 50)) := .mk Tryz.underlying24
theorem ty26 : TI Tryz.prog 26 ((Go.TypeDesc.pointer 53)) 1 8 (.pointer none) := .of Tryz.underlying26 (by kernel_rfl)
instance : Tc Tryz.prog 26 ((Go.TypeDesc.pointer 53)) 1 8 (.pointer none) := .mk ty26
instance : Uc Tryz.prog 26 ((Go.TypeDesc.pointer 53)) := .mk Tryz.underlying26
theorem ty28 : TI Tryz.prog 28 ((Go.TypeDesc.pointer 86)) 1 8 (.pointer none) := .of Tryz.underlying28 (by kernel_rfl)
instance : Tc Tryz.prog 28 ((Go.TypeDesc.pointer 86)) 1 8 (.pointer none) := .mk ty28
instance : Uc Tryz.prog 28 ((Go.TypeDesc.pointer 86)) := .mk Tryz.underlying28
theorem ty29 : TI Tryz.prog 29 ((Go.TypeDesc.pointer 76)) 1 8 (.pointer none) := .of Tryz.underlying29 (by kernel_rfl)
instance : Tc Tryz.prog 29 ((Go.TypeDesc.pointer 76)) 1 8 (.pointer none) := .mk ty29
instance : Uc Tryz.prog 29 ((Go.TypeDesc.pointer 76)) := .mk Tryz.underlying29
theorem ty31 : TI Tryz.prog 31 ((Go.TypeDesc.struct #[{ name := "d", type := 24, offset := 0, embedded := false, tag := "", pkgPath := "colonnade/colonnadelaw06", byteOffset := 0 }, { name := "l", type := 28, offset := 1, embedded := false, tag := "", pkgPath := "colonnade/colonnadelaw06", byteOffset := 8 }, { name := "g", type := 26, offset := 2, embedded := false, tag := "", pkgPath := "colonnade/colonnadelaw06", byteOffset := 16 }, { name := "w", type := 29, offset := 3, embedded := false, tag := "", pkgPath := "colonnade/colonnadelaw06", byteOffset := 24 }])) 4 32 (.agg #[.pointer none, .pointer none, .pointer none, .pointer none]) := .of Tryz.underlying31 (by kernel_rfl)
instance : Tc Tryz.prog 31 ((Go.TypeDesc.struct #[{ name := "d", type := 24, offset := 0, embedded := false, tag := "", pkgPath := "colonnade/colonnadelaw06", byteOffset := 0 }, { name := "l", type := 28, offset := 1, embedded := false, tag := "", pkgPath := "colonnade/colonnadelaw06", byteOffset := 8 }, { name := "g", type := 26, offset := 2, embedded := false, tag := "", pkgPath := "colonnade/colonnadelaw06", byteOffset := 16 }, { name := "w", type := 29, offset := 3, embedded := false, tag := "", pkgPath := "colonnade/colonnadelaw06", byteOffset := 24 }])) 4 32 (.agg #[.pointer none, .pointer none, .pointer none, .pointer none]) := .mk ty31
instance : Uc Tryz.prog 31 ((Go.TypeDesc.struct #[{ name := "d", type := 24, offset := 0, embedded := false, tag := "", pkgPath := "colonnade/colonnadelaw06", byteOffset := 0 }, { name := "l", type := 28, offset := 1, embedded := false, tag := "", pkgPath := "colonnade/colonnadelaw06", byteOffset := 8 }, { name := "g", type := 26, offset := 2, embedded := false, tag := "", pkgPath := "colonnade/colonnadelaw06", byteOffset := 16 }, { name := "w", type := 29, offset := 3, embedded := false, tag := "", pkgPath := "colonnade/colonnadelaw06", byteOffset := 24 }])) := .mk Tryz.underlying31
theorem ty33 : TI Tryz.prog 33 ((Go.TypeDesc.slice 41)) 1 24 (.slice none 0 0) := .of Tryz.underlying33 (by kernel_rfl)
instance : Tc Tryz.prog 33 ((Go.TypeDesc.slice 41)) 1 24 (.slice none 0 0) := .mk ty33
instance : Uc Tryz.prog 33 ((Go.TypeDesc.slice 41)) := .mk Tryz.underlying33
theorem ty34 : TI Tryz.prog 34 ((Go.TypeDesc.int Go.IntKind.u16)) 1 2 (.int .u16 0) := .of Tryz.underlying34 (by kernel_rfl)
instance : Tc Tryz.prog 34 ((Go.TypeDesc.int Go.IntKind.u16)) 1 2 (.int .u16 0) := .mk ty34
instance : Uc Tryz.prog 34 ((Go.TypeDesc.int Go.IntKind.u16)) := .mk Tryz.underlying34
theorem ty35 : TI Tryz.prog 35 ((Go.TypeDesc.slice 4)) 1 24 (.slice none 0 0) := .of Tryz.underlying35 (by kernel_rfl)
instance : Tc Tryz.prog 35 ((Go.TypeDesc.slice 4)) 1 24 (.slice none 0 0) := .mk ty35
instance : Uc Tryz.prog 35 ((Go.TypeDesc.slice 4)) := .mk Tryz.underlying35
theorem ty37 : TI Tryz.prog 37 ((Go.TypeDesc.struct #[{ name := "Do", type := 3, offset := 0, embedded := false, tag := "", pkgPath := "", byteOffset := 0 }, { name := "Records", type := 33, offset := 1, embedded := false, tag := "", pkgPath := "", byteOffset := 8 }, { name := "Many", type := 34, offset := 2, embedded := false, tag := "", pkgPath := "", byteOffset := 32 }, { name := "Gen", type := 2, offset := 3, embedded := false, tag := "", pkgPath := "", byteOffset := 40 }, { name := "At", type := 34, offset := 4, embedded := false, tag := "", pkgPath := "", byteOffset := 48 }, { name := "N", type := 3, offset := 5, embedded := false, tag := "", pkgPath := "", byteOffset := 56 }, { name := "Keep", type := 35, offset := 6, embedded := false, tag := "", pkgPath := "", byteOffset := 64 }])) 7 88 (.agg #[.int .i64 0, .slice none 0 0, .int .u16 0, .int .i64 0, .int .u16 0, .int .i64 0, .slice none 0 0]) := .of Tryz.underlying37 (by kernel_rfl)
instance : Tc Tryz.prog 37 ((Go.TypeDesc.struct #[{ name := "Do", type := 3, offset := 0, embedded := false, tag := "", pkgPath := "", byteOffset := 0 }, { name := "Records", type := 33, offset := 1, embedded := false, tag := "", pkgPath := "", byteOffset := 8 }, { name := "Many", type := 34, offset := 2, embedded := false, tag := "", pkgPath := "", byteOffset := 32 }, { name := "Gen", type := 2, offset := 3, embedded := false, tag := "", pkgPath := "", byteOffset := 40 }, { name := "At", type := 34, offset := 4, embedded := false, tag := "", pkgPath := "", byteOffset := 48 }, { name := "N", type := 3, offset := 5, embedded := false, tag := "", pkgPath := "", byteOffset := 56 }, { name := "Keep", type := 35, offset := 6, embedded := false, tag := "", pkgPath := "", byteOffset := 64 }])) 7 88 (.agg #[.int .i64 0, .slice none 0 0, .int .u16 0, .int .i64 0, .int .u16 0, .int .i64 0, .slice none 0 0]) := .mk ty37
instance : Uc Tryz.prog 37 ((Go.TypeDesc.struct #[{ name := "Do", type := 3, offset := 0, embedded := false, tag := "", pkgPath := "", byteOffset := 0 }, { name := "Records", type := 33, offset := 1, embedded := false, tag := "", pkgPath := "", byteOffset := 8 }, { name := "Many", type := 34, offset := 2, embedded := false, tag := "", pkgPath := "", byteOffset := 32 }, { name := "Gen", type := 2, offset := 3, embedded := false, tag := "", pkgPath := "", byteOffset := 40 }, { name := "At", type := 34, offset := 4, embedded := false, tag := "", pkgPath := "", byteOffset := 48 }, { name := "N", type := 3, offset := 5, embedded := false, tag := "", pkgPath := "", byteOffset := 56 }, { name := "Keep", type := 35, offset := 6, embedded := false, tag := "", pkgPath := "", byteOffset := 64 }])) := .mk Tryz.underlying37
instance : Uc Tryz.prog 39 ((Go.TypeDesc.int Go.IntKind.i64)) := .mk Tryz.underlying39
theorem ty41 : TI Tryz.prog 41 ((Go.TypeDesc.slice 5)) 1 24 (.slice none 0 0) := .of Tryz.underlying41 (by kernel_rfl)
instance : Tc Tryz.prog 41 ((Go.TypeDesc.slice 5)) 1 24 (.slice none 0 0) := .mk ty41
instance : Uc Tryz.prog 41 ((Go.TypeDesc.slice 5)) := .mk Tryz.underlying41
theorem ty47 : TI Tryz.prog 47 ((Go.TypeDesc.array 2 41)) 2 48 (.agg #[.slice none 0 0, .slice none 0 0]) := .of Tryz.underlying47 (by kernel_rfl)
instance : Tc Tryz.prog 47 ((Go.TypeDesc.array 2 41)) 2 48 (.agg #[.slice none 0 0, .slice none 0 0]) := .mk ty47
instance : Uc Tryz.prog 47 ((Go.TypeDesc.array 2 41)) := .mk Tryz.underlying47
theorem ty48 : TI Tryz.prog 48 ((Go.TypeDesc.slice 119)) 1 24 (.slice none 0 0) := .of Tryz.underlying48 (by kernel_rfl)
instance : Tc Tryz.prog 48 ((Go.TypeDesc.slice 119)) 1 24 (.slice none 0 0) := .mk ty48
instance : Uc Tryz.prog 48 ((Go.TypeDesc.slice 119)) := .mk Tryz.underlying48
theorem ty50 : TI Tryz.prog 50 ((Go.TypeDesc.struct #[{ name := "made", type := 4, offset := 0, embedded := false, tag := "", pkgPath := "colonnade/disk", byteOffset := 0 }, { name := "now", type := 47, offset := 1, embedded := false, tag := "", pkgPath := "colonnade/disk", byteOffset := 8 }, { name := "sure", type := 47, offset := 3, embedded := false, tag := "", pkgPath := "colonnade/disk", byteOffset := 56 }, { name := "l", type := 48, offset := 5, embedded := false, tag := "", pkgPath := "colonnade/disk", byteOffset := 104 }, { name := "fuse", type := 3, offset := 6, embedded := false, tag := "", pkgPath := "colonnade/disk", byteOffset := 128 }, { name := "keep", type := 35, offset := 7, embedded := false, tag := "", pkgPath := "colonnade/disk", byteOffset := 136 }, { name := "calls", type := 2, offset := 8, embedded := false, tag := "", pkgPath := "colonnade/disk", byteOffset := 160 }, { name := "down", type := 4, offset := 9, embedded := false, tag := "", pkgPath := "colonnade/disk", byteOffset := 168 }])) 10 176 (.agg #[.bool false, .slice none 0 0, .slice none 0 0, .slice none 0 0, .slice none 0 0, .slice none 0 0, .int .i64 0, .slice none 0 0, .int .i64 0, .bool false]) := .of Tryz.underlying50 (by kernel_rfl)
instance : Tc Tryz.prog 50 ((Go.TypeDesc.struct #[{ name := "made", type := 4, offset := 0, embedded := false, tag := "", pkgPath := "colonnade/disk", byteOffset := 0 }, { name := "now", type := 47, offset := 1, embedded := false, tag := "", pkgPath := "colonnade/disk", byteOffset := 8 }, { name := "sure", type := 47, offset := 3, embedded := false, tag := "", pkgPath := "colonnade/disk", byteOffset := 56 }, { name := "l", type := 48, offset := 5, embedded := false, tag := "", pkgPath := "colonnade/disk", byteOffset := 104 }, { name := "fuse", type := 3, offset := 6, embedded := false, tag := "", pkgPath := "colonnade/disk", byteOffset := 128 }, { name := "keep", type := 35, offset := 7, embedded := false, tag := "", pkgPath := "colonnade/disk", byteOffset := 136 }, { name := "calls", type := 2, offset := 8, embedded := false, tag := "", pkgPath := "colonnade/disk", byteOffset := 160 }, { name := "down", type := 4, offset := 9, embedded := false, tag := "", pkgPath := "colonnade/disk", byteOffset := 168 }])) 10 176 (.agg #[.bool false, .slice none 0 0, .slice none 0 0, .slice none 0 0, .slice none 0 0, .slice none 0 0, .int .i64 0, .slice none 0 0, .int .i64 0, .bool false]) := .mk ty50
instance : Uc Tryz.prog 50 ((Go.TypeDesc.struct #[{ name := "made", type := 4, offset := 0, embedded := false, tag := "", pkgPath := "colonnade/disk", byteOffset := 0 }, { name := "now", type := 47, offset := 1, embedded := false, tag := "", pkgPath := "colonnade/disk", byteOffset := 8 }, { name := "sure", type := 47, offset := 3, embedded := false, tag := "", pkgPath := "colonnade/disk", byteOffset := 56 }, { name := "l", type := 48, offset := 5, embedded := false, tag := "", pkgPath := "colonnade/disk", byteOffset := 104 }, { name := "fuse", type := 3, offset := 6, embedded := false, tag := "", pkgPath := "colonnade/disk", byteOffset := 128 }, { name := "keep", type := 35, offset := 7, embedded := false, tag := "", pkgPath := "colonnade/disk", byteOffset := 136 }, { name := "calls", type := 2, offset := 8, embedded := false, tag := "", pkgPath := "colonnade/disk", byteOffset := 160 }, { name := "down", type := 4, offset := 9, embedded := false, tag := "", pkgPath := "colonnade/disk", byteOffset := 168 }])) := .mk Tryz.underlying50
theorem ty51 : TI Tryz.prog 51 ((Go.TypeDesc.slice 80)) 1 24 (.slice none 0 0) := .of Tryz.underlying51 (by kernel_rfl)
instance : Tc Tryz.prog 51 ((Go.TypeDesc.slice 80)) 1 24 (.slice none 0 0) := .mk ty51
instance : Uc Tryz.prog 51 ((Go.TypeDesc.slice 80)) := .mk Tryz.underlying51
theorem ty53 : TI Tryz.prog 53 ((Go.TypeDesc.struct #[{ name := "sure", type := 47, offset := 0, embedded := false, tag := "", pkgPath := "colonnade/colonnaderef04", byteOffset := 0 }, { name := "Pieces", type := 51, offset := 2, embedded := false, tag := "", pkgPath := "", byteOffset := 48 }, { name := "fuse", type := 3, offset := 3, embedded := false, tag := "", pkgPath := "colonnade/colonnaderef04", byteOffset := 72 }, { name := "keep", type := 35, offset := 4, embedded := false, tag := "", pkgPath := "colonnade/colonnaderef04", byteOffset := 80 }, { name := "calls", type := 2, offset := 5, embedded := false, tag := "", pkgPath := "colonnade/colonnaderef04", byteOffset := 104 }, { name := "down", type := 4, offset := 6, embedded := false, tag := "", pkgPath := "colonnade/colonnaderef04", byteOffset := 112 }])) 7 120 (.agg #[.slice none 0 0, .slice none 0 0, .slice none 0 0, .int .i64 0, .slice none 0 0, .int .i64 0, .bool false]) := .of Tryz.underlying53 (by kernel_rfl)
instance : Tc Tryz.prog 53 ((Go.TypeDesc.struct #[{ name := "sure", type := 47, offset := 0, embedded := false, tag := "", pkgPath := "colonnade/colonnaderef04", byteOffset := 0 }, { name := "Pieces", type := 51, offset := 2, embedded := false, tag := "", pkgPath := "", byteOffset := 48 }, { name := "fuse", type := 3, offset := 3, embedded := false, tag := "", pkgPath := "colonnade/colonnaderef04", byteOffset := 72 }, { name := "keep", type := 35, offset := 4, embedded := false, tag := "", pkgPath := "colonnade/colonnaderef04", byteOffset := 80 }, { name := "calls", type := 2, offset := 5, embedded := false, tag := "", pkgPath := "colonnade/colonnaderef04", byteOffset := 104 }, { name := "down", type := 4, offset := 6, embedded := false, tag := "", pkgPath := "colonnade/colonnaderef04", byteOffset := 112 }])) 7 120 (.agg #[.slice none 0 0, .slice none 0 0, .slice none 0 0, .int .i64 0, .slice none 0 0, .int .i64 0, .bool false]) := .mk ty53
instance : Uc Tryz.prog 53 ((Go.TypeDesc.struct #[{ name := "sure", type := 47, offset := 0, embedded := false, tag := "", pkgPath := "colonnade/colonnaderef04", byteOffset := 0 }, { name := "Pieces", type := 51, offset := 2, embedded := false, tag := "", pkgPath := "", byteOffset := 48 }, { name := "fuse", type := 3, offset := 3, embedded := false, tag := "", pkgPath := "colonnade/colonnaderef04", byteOffset := 72 }, { name := "keep", type := 35, offset := 4, embedded := false, tag := "", pkgPath := "colonnade/colonnaderef04", byteOffset := 80 }, { name := "calls", type := 2, offset := 5, embedded := false, tag := "", pkgPath := "colonnade/colonnaderef04", byteOffset := 104 }, { name := "down", type := 4, offset := 6, embedded := false, tag := "", pkgPath := "colonnade/colonnaderef04", byteOffset := 112 }])) := .mk Tryz.underlying53
instance : Uc Tryz.prog 60 ((Go.TypeDesc.func #[99] #[] false)) := .mk Tryz.underlying60
theorem ty62 : TI Tryz.prog 62 ((Go.TypeDesc.slice 33)) 1 24 (.slice none 0 0) := .of Tryz.underlying62 (by kernel_rfl)
instance : Tc Tryz.prog 62 ((Go.TypeDesc.slice 33)) 1 24 (.slice none 0 0) := .mk ty62
instance : Uc Tryz.prog 62 ((Go.TypeDesc.slice 33)) := .mk Tryz.underlying62
theorem ty76 : TI Tryz.prog 76 ((Go.TypeDesc.struct #[{ name := "D", type := 26, offset := 0, embedded := false, tag := "", pkgPath := "", byteOffset := 0 }, { name := "G", type := 2, offset := 1, embedded := false, tag := "", pkgPath := "", byteOffset := 8 }, { name := "L", type := 62, offset := 2, embedded := false, tag := "", pkgPath := "", byteOffset := 16 }, { name := "End", type := 3, offset := 3, embedded := false, tag := "", pkgPath := "", byteOffset := 40 }])) 4 48 (.agg #[.pointer none, .int .i64 0, .slice none 0 0, .int .i64 0]) := .of Tryz.underlying76 (by kernel_rfl)
instance : Tc Tryz.prog 76 ((Go.TypeDesc.struct #[{ name := "D", type := 26, offset := 0, embedded := false, tag := "", pkgPath := "", byteOffset := 0 }, { name := "G", type := 2, offset := 1, embedded := false, tag := "", pkgPath := "", byteOffset := 8 }, { name := "L", type := 62, offset := 2, embedded := false, tag := "", pkgPath := "", byteOffset := 16 }, { name := "End", type := 3, offset := 3, embedded := false, tag := "", pkgPath := "", byteOffset := 40 }])) 4 48 (.agg #[.pointer none, .int .i64 0, .slice none 0 0, .int .i64 0]) := .mk ty76
instance : Uc Tryz.prog 76 ((Go.TypeDesc.struct #[{ name := "D", type := 26, offset := 0, embedded := false, tag := "", pkgPath := "", byteOffset := 0 }, { name := "G", type := 2, offset := 1, embedded := false, tag := "", pkgPath := "", byteOffset := 8 }, { name := "L", type := 62, offset := 2, embedded := false, tag := "", pkgPath := "", byteOffset := 16 }, { name := "End", type := 3, offset := 3, embedded := false, tag := "", pkgPath := "", byteOffset := 40 }])) := .mk Tryz.underlying76
theorem ty80 : TI Tryz.prog 80 ((Go.TypeDesc.struct #[{ name := "File", type := 3, offset := 0, embedded := false, tag := "", pkgPath := "", byteOffset := 0 }, { name := "Cut", type := 4, offset := 1, embedded := false, tag := "", pkgPath := "", byteOffset := 8 }, { name := "At", type := 3, offset := 2, embedded := false, tag := "", pkgPath := "", byteOffset := 16 }, { name := "B", type := 41, offset := 3, embedded := false, tag := "", pkgPath := "", byteOffset := 24 }])) 4 48 (.agg #[.int .i64 0, .bool false, .int .i64 0, .slice none 0 0]) := .of Tryz.underlying80 (by kernel_rfl)
instance : Tc Tryz.prog 80 ((Go.TypeDesc.struct #[{ name := "File", type := 3, offset := 0, embedded := false, tag := "", pkgPath := "", byteOffset := 0 }, { name := "Cut", type := 4, offset := 1, embedded := false, tag := "", pkgPath := "", byteOffset := 8 }, { name := "At", type := 3, offset := 2, embedded := false, tag := "", pkgPath := "", byteOffset := 16 }, { name := "B", type := 41, offset := 3, embedded := false, tag := "", pkgPath := "", byteOffset := 24 }])) 4 48 (.agg #[.int .i64 0, .bool false, .int .i64 0, .slice none 0 0]) := .mk ty80
instance : Uc Tryz.prog 80 ((Go.TypeDesc.struct #[{ name := "File", type := 3, offset := 0, embedded := false, tag := "", pkgPath := "", byteOffset := 0 }, { name := "Cut", type := 4, offset := 1, embedded := false, tag := "", pkgPath := "", byteOffset := 8 }, { name := "At", type := 3, offset := 2, embedded := false, tag := "", pkgPath := "", byteOffset := 16 }, { name := "B", type := 41, offset := 3, embedded := false, tag := "", pkgPath := "", byteOffset := 24 }])) := .mk Tryz.underlying80
theorem ty86 : TI Tryz.prog 86 ((Go.TypeDesc.struct #[{ name := "d", type := 24, offset := 0, embedded := false, tag := "", pkgPath := "colonnade/wal", byteOffset := 0 }, { name := "gen", type := 2, offset := 1, embedded := false, tag := "", pkgPath := "colonnade/wal", byteOffset := 8 }, { name := "l", type := 62, offset := 2, embedded := false, tag := "", pkgPath := "colonnade/wal", byteOffset := 16 }, { name := "end", type := 3, offset := 3, embedded := false, tag := "", pkgPath := "colonnade/wal", byteOffset := 40 }])) 4 48 (.agg #[.pointer none, .int .i64 0, .slice none 0 0, .int .i64 0]) := .of Tryz.underlying86 (by kernel_rfl)
instance : Tc Tryz.prog 86 ((Go.TypeDesc.struct #[{ name := "d", type := 24, offset := 0, embedded := false, tag := "", pkgPath := "colonnade/wal", byteOffset := 0 }, { name := "gen", type := 2, offset := 1, embedded := false, tag := "", pkgPath := "colonnade/wal", byteOffset := 8 }, { name := "l", type := 62, offset := 2, embedded := false, tag := "", pkgPath := "colonnade/wal", byteOffset := 16 }, { name := "end", type := 3, offset := 3, embedded := false, tag := "", pkgPath := "colonnade/wal", byteOffset := 40 }])) 4 48 (.agg #[.pointer none, .int .i64 0, .slice none 0 0, .int .i64 0]) := .mk ty86
instance : Uc Tryz.prog 86 ((Go.TypeDesc.struct #[{ name := "d", type := 24, offset := 0, embedded := false, tag := "", pkgPath := "colonnade/wal", byteOffset := 0 }, { name := "gen", type := 2, offset := 1, embedded := false, tag := "", pkgPath := "colonnade/wal", byteOffset := 8 }, { name := "l", type := 62, offset := 2, embedded := false, tag := "", pkgPath := "colonnade/wal", byteOffset := 16 }, { name := "end", type := 3, offset := 3, embedded := false, tag := "", pkgPath := "colonnade/wal", byteOffset := 40 }])) := .mk Tryz.underlying86
instance : Uc Tryz.prog 89 ((Go.TypeDesc.pointer 123)) := .mk Tryz.underlying89
theorem ty94 : TI Tryz.prog 94 ((Go.TypeDesc.struct #[{ name := "at", type := 3, offset := 0, embedded := false, tag := "", pkgPath := "colonnade/wal", byteOffset := 0 }, { name := "b", type := 41, offset := 1, embedded := false, tag := "", pkgPath := "colonnade/wal", byteOffset := 8 }])) 2 32 (.agg #[.int .i64 0, .slice none 0 0]) := .of Tryz.underlying94 (by kernel_rfl)
instance : Tc Tryz.prog 94 ((Go.TypeDesc.struct #[{ name := "at", type := 3, offset := 0, embedded := false, tag := "", pkgPath := "colonnade/wal", byteOffset := 0 }, { name := "b", type := 41, offset := 1, embedded := false, tag := "", pkgPath := "colonnade/wal", byteOffset := 8 }])) 2 32 (.agg #[.int .i64 0, .slice none 0 0]) := .mk ty94
instance : Uc Tryz.prog 94 ((Go.TypeDesc.struct #[{ name := "at", type := 3, offset := 0, embedded := false, tag := "", pkgPath := "colonnade/wal", byteOffset := 0 }, { name := "b", type := 41, offset := 1, embedded := false, tag := "", pkgPath := "colonnade/wal", byteOffset := 8 }])) := .mk Tryz.underlying94
theorem ty95 : TI Tryz.prog 95 ((Go.TypeDesc.array 2 94)) 4 64 (.agg #[.int .i64 0, .slice none 0 0, .int .i64 0, .slice none 0 0]) := .of Tryz.underlying95 (by kernel_rfl)
instance : Tc Tryz.prog 95 ((Go.TypeDesc.array 2 94)) 4 64 (.agg #[.int .i64 0, .slice none 0 0, .int .i64 0, .slice none 0 0]) := .mk ty95
instance : Uc Tryz.prog 95 ((Go.TypeDesc.array 2 94)) := .mk Tryz.underlying95
theorem ty106 : TI Tryz.prog 106 ((Go.TypeDesc.struct #[{ name := "at", type := 3, offset := 0, embedded := false, tag := "", pkgPath := "colonnade/disk", byteOffset := 0 }, { name := "b", type := 41, offset := 1, embedded := false, tag := "", pkgPath := "colonnade/disk", byteOffset := 8 }])) 2 32 (.agg #[.int .i64 0, .slice none 0 0]) := .of Tryz.underlying106 (by kernel_rfl)
instance : Tc Tryz.prog 106 ((Go.TypeDesc.struct #[{ name := "at", type := 3, offset := 0, embedded := false, tag := "", pkgPath := "colonnade/disk", byteOffset := 0 }, { name := "b", type := 41, offset := 1, embedded := false, tag := "", pkgPath := "colonnade/disk", byteOffset := 8 }])) 2 32 (.agg #[.int .i64 0, .slice none 0 0]) := .mk ty106
instance : Uc Tryz.prog 106 ((Go.TypeDesc.struct #[{ name := "at", type := 3, offset := 0, embedded := false, tag := "", pkgPath := "colonnade/disk", byteOffset := 0 }, { name := "b", type := 41, offset := 1, embedded := false, tag := "", pkgPath := "colonnade/disk", byteOffset := 8 }])) := .mk Tryz.underlying106
instance : Uc Tryz.prog 108 ((Go.TypeDesc.int Go.IntKind.u32)) := .mk Tryz.underlying108
instance : Uc Tryz.prog 114 ((Go.TypeDesc.int Go.IntKind.i64)) := .mk Tryz.underlying114
theorem ty117 : TI Tryz.prog 117 ((Go.TypeDesc.interface #[("colonnade/disk.do", 78)])) 1 16 (.nilIface) := .of Tryz.underlying117 (by kernel_rfl)
instance : Tc Tryz.prog 117 ((Go.TypeDesc.interface #[("colonnade/disk.do", 78)])) 1 16 (.nilIface) := .mk ty117
instance : Uc Tryz.prog 117 ((Go.TypeDesc.interface #[("colonnade/disk.do", 78)])) := .mk Tryz.underlying117
theorem ty119 : TI Tryz.prog 119 ((Go.TypeDesc.struct #[{ name := "file", type := 3, offset := 0, embedded := false, tag := "", pkgPath := "colonnade/disk", byteOffset := 0 }, { name := "p", type := 117, offset := 1, embedded := false, tag := "", pkgPath := "colonnade/disk", byteOffset := 8 }])) 2 24 (.agg #[.int .i64 0, .nilIface]) := .of Tryz.underlying119 (by kernel_rfl)
instance : Tc Tryz.prog 119 ((Go.TypeDesc.struct #[{ name := "file", type := 3, offset := 0, embedded := false, tag := "", pkgPath := "colonnade/disk", byteOffset := 0 }, { name := "p", type := 117, offset := 1, embedded := false, tag := "", pkgPath := "colonnade/disk", byteOffset := 8 }])) 2 24 (.agg #[.int .i64 0, .nilIface]) := .mk ty119
instance : Uc Tryz.prog 119 ((Go.TypeDesc.struct #[{ name := "file", type := 3, offset := 0, embedded := false, tag := "", pkgPath := "colonnade/disk", byteOffset := 0 }, { name := "p", type := 117, offset := 1, embedded := false, tag := "", pkgPath := "colonnade/disk", byteOffset := 8 }])) := .mk Tryz.underlying119
theorem ty123 : TI Tryz.prog 123 ((Go.TypeDesc.struct #[{ name := "made", type := 4, offset := 0, embedded := false, tag := "", pkgPath := "colonnade/codec", byteOffset := 0 }, { name := "b", type := 41, offset := 1, embedded := false, tag := "", pkgPath := "colonnade/codec", byteOffset := 8 }])) 2 32 (.agg #[.bool false, .slice none 0 0]) := .of Tryz.underlying123 (by kernel_rfl)
instance : Tc Tryz.prog 123 ((Go.TypeDesc.struct #[{ name := "made", type := 4, offset := 0, embedded := false, tag := "", pkgPath := "colonnade/codec", byteOffset := 0 }, { name := "b", type := 41, offset := 1, embedded := false, tag := "", pkgPath := "colonnade/codec", byteOffset := 8 }])) 2 32 (.agg #[.bool false, .slice none 0 0]) := .mk ty123
instance : Uc Tryz.prog 123 ((Go.TypeDesc.struct #[{ name := "made", type := 4, offset := 0, embedded := false, tag := "", pkgPath := "colonnade/codec", byteOffset := 0 }, { name := "b", type := 41, offset := 1, embedded := false, tag := "", pkgPath := "colonnade/codec", byteOffset := 8 }])) := .mk Tryz.underlying123
instance : Uc Tryz.prog 132 ((Go.TypeDesc.pointer 149)) := .mk Tryz.underlying132
instance : Uc Tryz.prog 138 ((Go.TypeDesc.int Go.IntKind.u64)) := .mk Tryz.underlying138
theorem ty142 : TI Tryz.prog 142 ((Go.TypeDesc.array 4 2)) 4 32 (.agg #[.int .i64 0, .int .i64 0, .int .i64 0, .int .i64 0]) := .of Tryz.underlying142 (by kernel_rfl)
instance : Tc Tryz.prog 142 ((Go.TypeDesc.array 4 2)) 4 32 (.agg #[.int .i64 0, .int .i64 0, .int .i64 0, .int .i64 0]) := .mk ty142
instance : Uc Tryz.prog 142 ((Go.TypeDesc.array 4 2)) := .mk Tryz.underlying142
theorem ty149 : TI Tryz.prog 149 ((Go.TypeDesc.struct #[{ name := "made", type := 4, offset := 0, embedded := false, tag := "", pkgPath := "colonnade/codec", byteOffset := 0 }, { name := "rest", type := 41, offset := 1, embedded := false, tag := "", pkgPath := "colonnade/codec", byteOffset := 8 }])) 2 32 (.agg #[.bool false, .slice none 0 0]) := .of Tryz.underlying149 (by kernel_rfl)
instance : Tc Tryz.prog 149 ((Go.TypeDesc.struct #[{ name := "made", type := 4, offset := 0, embedded := false, tag := "", pkgPath := "colonnade/codec", byteOffset := 0 }, { name := "rest", type := 41, offset := 1, embedded := false, tag := "", pkgPath := "colonnade/codec", byteOffset := 8 }])) 2 32 (.agg #[.bool false, .slice none 0 0]) := .mk ty149
instance : Uc Tryz.prog 149 ((Go.TypeDesc.struct #[{ name := "made", type := 4, offset := 0, embedded := false, tag := "", pkgPath := "colonnade/codec", byteOffset := 0 }, { name := "rest", type := 41, offset := 1, embedded := false, tag := "", pkgPath := "colonnade/codec", byteOffset := 8 }])) := .mk Tryz.underlying149
instance : Uc Tryz.prog 155 ((Go.TypeDesc.int Go.IntKind.u64)) := .mk Tryz.underlying155
instance : Uc Tryz.prog 163 ((Go.TypeDesc.array 256 5)) := .mk Tryz.underlying163
instance : Uc Tryz.prog 165 ((Go.TypeDesc.struct #[{ name := "lo", type := 5, offset := 0, embedded := false, tag := "", pkgPath := "unicode/utf8", byteOffset := 0 }, { name := "hi", type := 5, offset := 1, embedded := false, tag := "", pkgPath := "unicode/utf8", byteOffset := 1 }])) := .mk Tryz.underlying165
instance : Uc Tryz.prog 166 ((Go.TypeDesc.array 16 165)) := .mk Tryz.underlying166
instance : Fc Tryz.prog 7 0 0 1 false := .mk' Tryz.underlying7 rfl rfl ty2 rfl (by decide)
instance : Fc Tryz.prog 7 1 1 1 false := .mk' Tryz.underlying7 rfl rfl ty3 rfl (by decide)
instance : Fc Tryz.prog 7 2 2 1 false := .mk' Tryz.underlying7 rfl rfl ty4 rfl (by decide)
instance : Fc Tryz.prog 31 0 0 1 false := .mk' Tryz.underlying31 rfl rfl ty24 rfl (by decide)
instance : Fc Tryz.prog 31 1 1 1 false := .mk' Tryz.underlying31 rfl rfl ty28 rfl (by decide)
instance : Fc Tryz.prog 31 2 2 1 false := .mk' Tryz.underlying31 rfl rfl ty26 rfl (by decide)
instance : Fc Tryz.prog 31 3 3 1 false := .mk' Tryz.underlying31 rfl rfl ty29 rfl (by decide)
instance : Sc Tryz.prog 31 [(0, 1), (1, 1), (2, 1), (3, 1)] [.pointer none, .pointer none, .pointer none, .pointer none] := .mk' ty31 (by rfl) (.cons rfl ty24 (.cons rfl ty28 (.cons rfl ty26 (.cons rfl ty29 (.nil)))))
instance : Fc Tryz.prog 37 0 0 1 false := .mk' Tryz.underlying37 rfl rfl ty3 rfl (by decide)
instance : Fc Tryz.prog 37 1 1 1 false := .mk' Tryz.underlying37 rfl rfl ty33 rfl (by decide)
instance : Fc Tryz.prog 37 2 2 1 false := .mk' Tryz.underlying37 rfl rfl ty34 rfl (by decide)
instance : Fc Tryz.prog 37 3 3 1 false := .mk' Tryz.underlying37 rfl rfl ty2 rfl (by decide)
instance : Fc Tryz.prog 37 4 4 1 false := .mk' Tryz.underlying37 rfl rfl ty34 rfl (by decide)
instance : Fc Tryz.prog 37 5 5 1 false := .mk' Tryz.underlying37 rfl rfl ty3 rfl (by decide)
instance : Fc Tryz.prog 37 6 6 1 false := .mk' Tryz.underlying37 rfl rfl ty35 rfl (by decide)
instance : Sc Tryz.prog 37 [(0, 1), (1, 1), (2, 1), (3, 1), (4, 1), (5, 1), (6, 1)] [.int .i64 0, .slice none 0 0, .int .u16 0, .int .i64 0, .int .u16 0, .int .i64 0, .slice none 0 0] := .mk' ty37 (by rfl) (.cons rfl ty3 (.cons rfl ty33 (.cons rfl ty34 (.cons rfl ty2 (.cons rfl ty34 (.cons rfl ty3 (.cons rfl ty35 (.nil))))))))
instance : Fc Tryz.prog 50 0 0 1 false := .mk' Tryz.underlying50 rfl rfl ty4 rfl (by decide)
instance : Fc Tryz.prog 50 1 1 2 true := .mk' Tryz.underlying50 rfl rfl ty47 rfl (by decide)
instance : Fc Tryz.prog 50 2 3 2 true := .mk' Tryz.underlying50 rfl rfl ty47 rfl (by decide)
instance : Fc Tryz.prog 50 3 5 1 false := .mk' Tryz.underlying50 rfl rfl ty48 rfl (by decide)
instance : Fc Tryz.prog 50 4 6 1 false := .mk' Tryz.underlying50 rfl rfl ty3 rfl (by decide)
instance : Fc Tryz.prog 50 5 7 1 false := .mk' Tryz.underlying50 rfl rfl ty35 rfl (by decide)
instance : Fc Tryz.prog 50 6 8 1 false := .mk' Tryz.underlying50 rfl rfl ty2 rfl (by decide)
instance : Fc Tryz.prog 50 7 9 1 false := .mk' Tryz.underlying50 rfl rfl ty4 rfl (by decide)
instance : Sc Tryz.prog 50 [(0, 1), (1, 2), (3, 2), (5, 1), (6, 1), (7, 1), (8, 1), (9, 1)] [.bool false, .slice none 0 0, .slice none 0 0, .slice none 0 0, .slice none 0 0, .slice none 0 0, .int .i64 0, .slice none 0 0, .int .i64 0, .bool false] := .mk' ty50 (by rfl) (.cons rfl ty4 (.cons rfl ty47 (.cons rfl ty47 (.cons rfl ty48 (.cons rfl ty3 (.cons rfl ty35 (.cons rfl ty2 (.cons rfl ty4 (.nil)))))))))
instance : Fc Tryz.prog 53 0 0 2 true := .mk' Tryz.underlying53 rfl rfl ty47 rfl (by decide)
instance : Fc Tryz.prog 53 1 2 1 false := .mk' Tryz.underlying53 rfl rfl ty51 rfl (by decide)
instance : Fc Tryz.prog 53 2 3 1 false := .mk' Tryz.underlying53 rfl rfl ty3 rfl (by decide)
instance : Fc Tryz.prog 53 3 4 1 false := .mk' Tryz.underlying53 rfl rfl ty35 rfl (by decide)
instance : Fc Tryz.prog 53 4 5 1 false := .mk' Tryz.underlying53 rfl rfl ty2 rfl (by decide)
instance : Fc Tryz.prog 53 5 6 1 false := .mk' Tryz.underlying53 rfl rfl ty4 rfl (by decide)
instance : Sc Tryz.prog 53 [(0, 2), (2, 1), (3, 1), (4, 1), (5, 1), (6, 1)] [.slice none 0 0, .slice none 0 0, .slice none 0 0, .int .i64 0, .slice none 0 0, .int .i64 0, .bool false] := .mk' ty53 (by rfl) (.cons rfl ty47 (.cons rfl ty51 (.cons rfl ty3 (.cons rfl ty35 (.cons rfl ty2 (.cons rfl ty4 (.nil)))))))
instance : Fc Tryz.prog 76 0 0 1 false := .mk' Tryz.underlying76 rfl rfl ty26 rfl (by decide)
instance : Fc Tryz.prog 76 1 1 1 false := .mk' Tryz.underlying76 rfl rfl ty2 rfl (by decide)
instance : Fc Tryz.prog 76 2 2 1 false := .mk' Tryz.underlying76 rfl rfl ty62 rfl (by decide)
instance : Fc Tryz.prog 76 3 3 1 false := .mk' Tryz.underlying76 rfl rfl ty3 rfl (by decide)
instance : Sc Tryz.prog 76 [(0, 1), (1, 1), (2, 1), (3, 1)] [.pointer none, .int .i64 0, .slice none 0 0, .int .i64 0] := .mk' ty76 (by rfl) (.cons rfl ty26 (.cons rfl ty2 (.cons rfl ty62 (.cons rfl ty3 (.nil)))))
instance : Fc Tryz.prog 80 0 0 1 false := .mk' Tryz.underlying80 rfl rfl ty3 rfl (by decide)
instance : Fc Tryz.prog 80 1 1 1 false := .mk' Tryz.underlying80 rfl rfl ty4 rfl (by decide)
instance : Fc Tryz.prog 80 2 2 1 false := .mk' Tryz.underlying80 rfl rfl ty3 rfl (by decide)
instance : Fc Tryz.prog 80 3 3 1 false := .mk' Tryz.underlying80 rfl rfl ty41 rfl (by decide)
instance : Sc Tryz.prog 80 [(0, 1), (1, 1), (2, 1), (3, 1)] [.int .i64 0, .bool false, .int .i64 0, .slice none 0 0] := .mk' ty80 (by rfl) (.cons rfl ty3 (.cons rfl ty4 (.cons rfl ty3 (.cons rfl ty41 (.nil)))))
instance : Fc Tryz.prog 86 0 0 1 false := .mk' Tryz.underlying86 rfl rfl ty24 rfl (by decide)
instance : Fc Tryz.prog 86 1 1 1 false := .mk' Tryz.underlying86 rfl rfl ty2 rfl (by decide)
instance : Fc Tryz.prog 86 2 2 1 false := .mk' Tryz.underlying86 rfl rfl ty62 rfl (by decide)
instance : Fc Tryz.prog 86 3 3 1 false := .mk' Tryz.underlying86 rfl rfl ty3 rfl (by decide)
instance : Sc Tryz.prog 86 [(0, 1), (1, 1), (2, 1), (3, 1)] [.pointer none, .int .i64 0, .slice none 0 0, .int .i64 0] := .mk' ty86 (by rfl) (.cons rfl ty24 (.cons rfl ty2 (.cons rfl ty62 (.cons rfl ty3 (.nil)))))
instance : Fc Tryz.prog 94 0 0 1 false := .mk' Tryz.underlying94 rfl rfl ty3 rfl (by decide)
instance : Fc Tryz.prog 94 1 1 1 false := .mk' Tryz.underlying94 rfl rfl ty41 rfl (by decide)
instance : Sc Tryz.prog 94 [(0, 1), (1, 1)] [.int .i64 0, .slice none 0 0] := .mk' ty94 (by rfl) (.cons rfl ty3 (.cons rfl ty41 (.nil)))
instance : Fc Tryz.prog 106 0 0 1 false := .mk' Tryz.underlying106 rfl rfl ty3 rfl (by decide)
instance : Fc Tryz.prog 106 1 1 1 false := .mk' Tryz.underlying106 rfl rfl ty41 rfl (by decide)
instance : Sc Tryz.prog 106 [(0, 1), (1, 1)] [.int .i64 0, .slice none 0 0] := .mk' ty106 (by rfl) (.cons rfl ty3 (.cons rfl ty41 (.nil)))
instance : Fc Tryz.prog 119 0 0 1 false := .mk' Tryz.underlying119 rfl rfl ty3 rfl (by decide)
instance : Fc Tryz.prog 119 1 1 1 false := .mk' Tryz.underlying119 rfl rfl ty117 rfl (by decide)
instance : Sc Tryz.prog 119 [(0, 1), (1, 1)] [.int .i64 0, .nilIface] := .mk' ty119 (by rfl) (.cons rfl ty3 (.cons rfl ty117 (.nil)))
instance : Fc Tryz.prog 123 0 0 1 false := .mk' Tryz.underlying123 rfl rfl ty4 rfl (by decide)
instance : Fc Tryz.prog 123 1 1 1 false := .mk' Tryz.underlying123 rfl rfl ty41 rfl (by decide)
instance : Sc Tryz.prog 123 [(0, 1), (1, 1)] [.bool false, .slice none 0 0] := .mk' ty123 (by rfl) (.cons rfl ty4 (.cons rfl ty41 (.nil)))
instance : Fc Tryz.prog 149 0 0 1 false := .mk' Tryz.underlying149 rfl rfl ty4 rfl (by decide)
instance : Fc Tryz.prog 149 1 1 1 false := .mk' Tryz.underlying149 rfl rfl ty41 rfl (by decide)
instance : Sc Tryz.prog 149 [(0, 1), (1, 1)] [.bool false, .slice none 0 0] := .mk' ty149 (by rfl) (.cons rfl ty4 (.cons rfl ty41 (.nil)))
instance : Fc Tryz.prog 165 0 0 1 false := .mk' Tryz.underlying165 rfl rfl ty5 rfl (by decide)
instance : Fc Tryz.prog 165 1 1 1 false := .mk' Tryz.underlying165 rfl rfl ty5 rfl (by decide)
end Go.Proofs.YtfbddbpbifnhfaaGreatDoor

/- Rows that a function owns and appends to; results; calls (written by gen_own.py). -/
namespace Go.Abs
open Go.RowKit

structure OwnSl (h : AH) (n0 n : Nat) (a : Option Addr) (z m : Nat) (cs : List Value) : Prop where
  le : n0 ≤ n
  len : cs.length = m * z
  kn : known cs = true
  or : (a = none ∧ m = 0) ∨ (a = some ⟨sb a, 0, none⟩ ∧ n0 ≤ sb a ∧ sb a < n ∧ h.info (sb a) = some ⟨m * z, 0, true, z⟩ ∧ rd h (sb a) 0 (m * z) = cs)

section
variable {h h1 : AH} {n0 n n1 : Nat} {a : Option Addr} {z m : Nat} {cs : List Value}
theorem OwnSl.nil (hn : n0 ≤ n) : OwnSl h n0 n none z 0 [] := ⟨hn, by simp, rfl, .inl ⟨rfl, rfl⟩⟩
theorem OwnSl.slr (o : OwnSl h n0 n a z m cs) : SlR h n a z m (fun j => cs.getD j (.tuple #[])) := by
  rcases o.or with ⟨k1, k2⟩ | ⟨k1, k2, k3, k4, k5⟩
  · subst k1; subst k2; exact .nil
  · have e : so a = 0 := by rw [k1]; rfl
    refine ⟨.inr ⟨by rw [e]; exact k1, k3, _, k4, rfl⟩, fun j hj => ?_⟩
    have := rd_getD h (sb a) (m * z) 0 j hj
    rw [k5] at this
    rw [e]; exact this.symm
theorem OwnSl.ext (o : OwnSl h n0 n a z m cs) (e : Ext n h h1) (hn : n ≤ n1) : OwnSl h1 n0 n1 a z m cs := by
  refine ⟨Nat.le_trans o.le hn, o.len, o.kn, ?_⟩
  rcases o.or with k | ⟨k1, k2, k3, k4, k5⟩
  · exact .inl k
  · exact .inr ⟨k1, k2, by omega, by rw [e.info _ k3]; exact k4, by rw [rd_ext e k3]; exact k5⟩
theorem ExtX.ext (e : ExtX n a h h1) (o : OwnSl h n0 n a z m cs) : Ext n0 h h1 := by
  have hn := o.le
  rcases o.or with ⟨k1, _⟩ | ⟨k1, k2, k3, _⟩
  · exact ⟨fun b hb => (e b (by omega) (.inl k1)).1, fun b i hb => (e b (by omega) (.inl k1)).2 i⟩
  · exact ⟨fun b hb => (e b (by omega) (.inr (by omega))).1, fun b i hb => (e b (by omega) (.inr (by omega))).2 i⟩
theorem OwnSl.new (hn : n0 ≤ n) (hlen : cs.length = m * z) (hk : known cs = true) : OwnSl (h.app (.new n ⟨m * z, 0, true, z⟩ cs)) n0 (n + 1) (some ⟨n, 0, none⟩) z m cs := by
  refine ⟨by omega, hlen, hk, .inr ⟨rfl, hn, by show n < n + 1; omega, i_new, ?_⟩⟩
  exact r_new hlen.symm
theorem OwnSl.new1 (hn : n0 ≤ n) (hlen : cs.length = m) (hk : known cs = true) : OwnSl (h.app (.new n ⟨m, 0, true, 1⟩ cs)) n0 (n + 1) (some ⟨n, 0, none⟩) 1 m cs := by
  have := OwnSl.new (h := h) (z := 1) (m := m) (cs := cs) hn (by simpa using hlen) hk
  rwa [Nat.mul_one] at this
theorem OwnSl.mono (o : OwnSl h n0 n a z m cs) {n0' : Nat} (hl : n0' ≤ n0) : OwnSl h n0' n a z m cs := by
  have := o.le
  refine ⟨by omega, o.len, o.kn, ?_⟩
  rcases o.or with k | ⟨k1, k2, k3⟩
  · exact .inl k
  · exact .inr ⟨k1, by omega, k3⟩
theorem OwnSl.sets {b o' : Nat} {vs : List Value} (o : OwnSl h n0 n a z m cs) (hb : b < n0) : OwnSl (h.app (.sets b o' vs)) n0 n a z m cs := by
  refine ⟨o.le, o.len, o.kn, ?_⟩
  rcases o.or with k | ⟨k1, k2, k3, k4, k5⟩
  · exact .inl k
  · exact .inr ⟨k1, k2, k3, i_sets k4, by rw [r_sets_ne (by omega) k5]⟩

theorem OwnSl.setsN {b o' : Nat} {vs : List Value} (o : OwnSl h n0 n a z m cs) (hb : a = none ∨ sb a ≠ b) : OwnSl (h.app (.sets b o' vs)) n0 n a z m cs := by
  refine ⟨o.le, o.len, o.kn, ?_⟩
  rcases o.or with k | ⟨k1, k2, k3, k4, k5⟩
  · exact .inl k
  · refine .inr ⟨k1, k2, k3, i_sets k4, ?_⟩
    rcases hb with hb | hb
    · rw [hb] at k1; cases k1
    · rw [r_sets_ne hb k5]
theorem SlR.src {f : Nat → Value} (s : SlR h n a z m f) (hk : known ((List.range (m * z)).map f) = true) : Src h z (.slice a m m) m ((List.range (m * z)).map f) := by
  rcases s.shape with ⟨k1, k2⟩ | ⟨k1, _⟩
  · subst k1; subst k2
    simp; exact .nil
  · have := SlR.rd s (Ext.refl n h) (i := 0) (k := m * z) (by omega)
    simp only [Nat.add_zero, Nat.zero_add] at this
    have e : (fun j => f j) = f := rfl
    rw [e] at this
    rw [← this] at hk ⊢
    rw [show Value.slice a m m = Value.slice (some ⟨sb a, so a, none⟩) m m by rw [← k1]]
    exact .slice (Nat.le_refl _) hk
theorem OwnSl.src (o : OwnSl h n0 n a z m cs) : Src h z (.slice a m m) m cs := by
  rcases o.or with ⟨k1, k2⟩ | ⟨k1, k2, k3, k4, k5⟩
  · subst k1; subst k2
    have : cs = [] := List.eq_nil_of_length_eq_zero (by have := o.len; omega)
    subst this; exact .nil
  · have hk := o.kn
    rw [← k5] at hk ⊢
    rw [show Value.slice a m m = Value.slice (some ⟨sb a, 0, none⟩) m m by rw [← k1]]
    exact .slice (Nat.le_refl _) hk
theorem OwnSl.slb {h : AH} {n0 n : Nat} {a : Option Addr} {l : List UInt8} (o : OwnSl h n0 n a 1 l.length (bytesV l)) : SlB h n a l :=
  o.slr.congr fun j hj => by simp [bytesV, bytesF, List.getD, show j < l.length by omega]
theorem SlB.src {h : AH} {n : Nat} {a : Option Addr} {l : List UInt8} (s : SlB h n a l) : Src h 1 (.slice a l.length l.length) l.length (bytesV l) := by
  have e : (List.range (l.length * 1)).map (bytesF l) = bytesV l := by
    apply List.ext_getElem
    · simp [bytesV]
    · intro i h1 h2
      have hi : i < l.length := by simpa [bytesV] using h2
      simp [bytesV, bytesF, List.getD, hi]
  have := SlR.src s (by rw [e]; exact bytesV_known l)
  rwa [e] at this
theorem SlR.two {h : AH} {n : Nat} {a : Option Addr} {z m : Nat} {f : Nat → Value} (s : SlR h n a z m f) : (a = none ∧ m = 0) ∨ ∃ b o, a = some ⟨b, o, none⟩ := by
  rcases s.shape with k | k
  · exact .inl k
  · exact .inr ⟨_, _, k.1⟩
theorem OwnSl.facts (o : OwnSl h n0 n a z m cs) (hm : 0 < m) : so a = 0 ∧ n0 ≤ sb a ∧ sb a < n ∧ h.info (sb a) = some ⟨m * z, 0, true, z⟩ ∧ SlA a m ∧ ∀ j, j < m * z → h.cell (sb a) (so a + j) = cs.getD j (.tuple #[]) := by
  have hs := o.slr
  rcases o.or with ⟨k1, k2⟩ | ⟨k1, k2, k3, k4, k5⟩
  · omega
  · exact ⟨by rw [k1]; rfl, k2, k3, k4, hs.sla, hs.cell⟩
theorem OwnSl.set1 {i : Nat} {v : Value} (o : OwnSl h n0 n a z m cs) (hi : i < m * z) (hv : known [v] = true) : OwnSl (h.app (.sets (sb a) (so a + i) [v])) n0 n a z m (cs.set i v) := by
  have hm : 0 < m := Nat.pos_of_ne_zero fun h0 => by subst h0; simp at hi
  have hk : ∀ (l : List Value) (i : Nat), known l = true → known (l.set i v) = true := by
    intro l
    induction l with
    | nil => intro i h; exact h
    | cons x l ih =>
      intro i h
      cases i with
      | zero => cases x <;> simp_all [known] <;> (cases v <;> simp_all [known])
      | succ i => cases x <;> simp_all [known]
  refine ⟨o.le, by simp [o.len], hk _ _ o.kn, ?_⟩
  rcases o.or with ⟨k1, k2⟩ | ⟨k1, k2, k3, k4, k5⟩
  · omega
  · have e : so a = 0 := by rw [k1]; rfl
    refine .inr ⟨k1, k2, k3, i_sets k4, ?_⟩
    apply List.ext_getElem
    · rw [rd_length]; simp [o.len]
    · intro j h1 h2
      rw [rd_length] at h1
      have e1 := rd_getD (h.app (.sets (sb a) (so a + i) [v])) (sb a) (m * z) 0 j h1
      have e2 : (rd (h.app (.sets (sb a) (so a + i) [v])) (sb a) 0 (m * z)).getD j (.tuple #[]) = (rd (h.app (.sets (sb a) (so a + i) [v])) (sb a) 0 (m * z))[j]'(by rw [rd_length]; exact h1) := by simp [List.getD, rd_length, h1]
      rw [← e2, e1]
      have h3 : j < cs.length := by rw [o.len]; exact h1
      by_cases hj : j = i
      · subst hj
        rw [c_in (v := v) (by omega) (by rw [e]; simp)]
        simp
      · rw [c_out (v := h.cell (sb a) (0 + j)) (by right; simp only [List.length_cons, List.length_nil]; omega) rfl]
        have := rd_getD h (sb a) (m * z) 0 j h1
        rw [k5] at this
        rw [← this]
        simp [List.getD, h3, List.getElem_set_ne (Ne.symm hj)]
theorem SlR.take {f : Nat → Value} {u : Nat} (s : SlR h n a z m f) (hu : u ≤ m) : SlR h n a z u f := by
  refine ⟨?_, fun j hj => s.cell j (Nat.lt_of_lt_of_le hj (Nat.mul_le_mul_right _ hu))⟩
  rcases s.shape with ⟨k1, k2⟩ | k
  · exact .inl ⟨k1, by omega⟩
  · exact .inr k
theorem SlB.take {u : Nat} {l : List UInt8} (s : SlB h n a l) (hu : u ≤ l.length) : SlB h n a (l.take u) := by
  have := SlR.take s hu
  have e : (l.take u).length = u := by simp; omega
  unfold SlB
  rw [e]
  refine this.congr fun j hj => ?_
  simp only [bytesF, List.getD, List.getElem?_take]
  rw [if_pos (by omega)]
theorem OwnSl.slbE {l : List UInt8} (o : OwnSl h n0 n a 1 m (bytesV l)) : SlB h n a l := by
  have : m = l.length := by have := o.len; rw [bytesV_length] at this; omega
  subst this; exact o.slb
theorem bytesV_set (l : List UInt8) (i v : Nat) (hv : v < 256) : (bytesV l).set i (.int .u8 (v : Nat)) = bytesV (l.set i (UInt8.ofNat v)) := by
  simp only [bytesV, List.map_set]
  congr 2
  simp [UInt8.toNat_ofNat', Nat.mod_eq_of_lt hv]
theorem SlB.takeA {h : AH} {n : Nat} {a : Option Addr} {l : List UInt8} (S : SlB h n a l) (u : Nat) : SlB h n a (l.take u) := by
  by_cases hu : u ≤ l.length
  · exact S.take hu
  · rw [List.take_of_length_le (by omega)]; exact S
theorem SlB.cut {i u : Nat} {l : List UInt8} (s : SlB h n a l) (hi : i ≤ u) (hu : u ≤ l.length) : SlB h n (Abs.sub a i) ((l.take u).drop i) := by
  have := SlR.sub s hi hu
  rw [Nat.mul_one] at this
  have e : ((l.take u).drop i).length = u - i := by simp; omega
  unfold SlB
  rw [e]
  refine this.congr fun j hj => ?_
  simp only [bytesF, List.getD, List.getElem?_drop, List.getElem?_take]
  rw [if_pos (by omega)]
theorem full_slice {a : Option Addr} {m c : Nat} : full (.slice a m c) m := rfl
end

section
variable {P : Program} {T W : Nat → Prop} {ops : Array Oper} {os : List Oper} {env : Env} {n n1 : Nat} {h h1 g : AH} {Q : Env → Nat → AH → Prop}
variable {dst : Option Tmp} {ty : TypeId} {pos : String} {after : Array Edge} {gd : Option (Nat × Bool)}

theorem SlR.extX {h h1 : AH} {n z m : Nat} {a c : Option Addr} {f : Nat → Value} (s : SlR h n a z m f) (e : ExtX n c h h1) (hne : c = none ∨ a = none ∨ sb a ≠ sb c) : SlR h1 n a z m f := by
  rcases s.shape with ⟨k1, k2⟩ | ⟨k1, k2, mm, k3, k4⟩
  · subst k1; subst k2; exact SlR.nil
  · have hx : c = none ∨ sb a ≠ sb c := by
      rcases hne with q | q | q
      · exact .inl q
      · rw [q] at k1; cases k1
      · exact .inr q
    have := e (sb a) k2 hx
    exact ⟨.inr ⟨k1, k2, mm, by rw [this.1]; exact k3, k4⟩, fun j hj => (this.2 _).trans (s.cell j hj)⟩
theorem OwnSl.at' {h : AH} {n0 n z m : Nat} {a : Option Addr} {cs : List Value} (o : OwnSl h n0 n a z m cs) : a = none ∨ n0 ≤ sb a ∧ sb a < n := by
  rcases o.or with ⟨k, _⟩ | ⟨_, k1, k2, _⟩
  · exact .inl k
  · exact .inr ⟨k1, k2⟩
theorem OwnSl.extX {h h1 : AH} {n0 n n1 z m : Nat} {a c : Option Addr} {cs : List Value} (o : OwnSl h n0 n a z m cs) (e : ExtX n c h h1) (hn : n ≤ n1) (hne : c = none ∨ a = none ∨ sb a ≠ sb c) : OwnSl h1 n0 n1 a z m cs := by
  refine ⟨by have := o.le; omega, o.len, o.kn, ?_⟩
  rcases o.or with k | ⟨k1, k2, k3, k4, k5⟩
  · exact .inl k
  · have hx : c = none ∨ sb a ≠ sb c := by
      rcases hne with q | q | q
      · exact .inl q
      · rw [q] at k1; cases k1
      · exact .inr q
    have := e (sb a) k3 hx
    exact .inr ⟨k1, k2, by omega, by rw [this.1]; exact k4, by rw [rd_congr this.2]; exact k5⟩
theorem OwnSl.extW {W : Nat → Prop} {h h1 : AH} {n0 n n1 n2 z m : Nat} {a : Option Addr} {cs : List Value} (o : OwnSl h n0 n a z m cs) (e : ExtW W n2 h h1) (hn : n ≤ n1) (hn2 : n ≤ n2) (hW : a ≠ none → ¬ W (sb a)) : OwnSl h1 n0 n1 a z m cs := by
  refine ⟨by have := o.le; omega, o.len, o.kn, ?_⟩
  rcases o.or with k | ⟨k1, k2, k3, k4, k5⟩
  · exact .inl k
  · have hw := hW (by rw [k1]; simp)
    exact .inr ⟨k1, k2, by omega, by rw [e.info _ (by omega) hw]; exact k4, by rw [rd_congr (fun i => e.cell _ i (by omega) hw)]; exact k5⟩
theorem ExtW.ofX {W : Nat → Prop} {h h1 : AH} {n : Nat} {a : Option Addr} (e : ExtX n a h h1) (hW : a ≠ none → W (sb a)) : ExtW W n h h1 := by
  have hx : ∀ b, ¬ W b → a = none ∨ b ≠ sb a := fun b hw => by
    by_cases q : a = none
    · exact .inl q
    · exact .inr fun e => hw (e ▸ hW q)
  exact ⟨fun b hb hw => (e b hb (hx b hw)).1, fun b i hb hw => (e b hb (hx b hw)).2 i⟩
theorem RD.appendN {q : Tmp} {t t2 e : TypeId} {d d2 : TypeDesc} {z by_ : Nat} {zv : Value} {x y : Operand} {m : Nat} {a : Option Addr} {f : Nat → Value} {h0 : AH} {n0 : Nat} {ps : List Ft} [hu : Uc P t (.slice e)] [hz : Tc P e d z by_ zv] [hu2 : Uc P t2 d2]
    (hw : wants ops ⟨some q, .call { callee := .builtin .append, args := #[x, y], argTypes := #[t, t2] }, ty, pos, after, gd⟩ env = some true) (hx : Opd env x (.slice none 0 0)) (hy : Opd env y (.slice a m m)) (S : SlR h0 n0 a z m f) (E : Ext n0 h0 h) (hn : n0 ≤ n) (hb : sb a < n)
    (hk : known ((List.range (m * z)).map f) = true) (hbig : m * by_ ≤ 140737488355328) (hc : CF ops ps.length (· = sb a) none' ps.length ps)
    (K : ∀ a' n1 h1, n ≤ n1 → OwnSl h1 n n1 a' z m ((List.range (m * z)).map f) → Ext n h h1 → RD P T ops (⟨(· = sb a), none', n, n1⟩ :: ps) os ((q, .slice a' m m) :: env) n1 h1 Q)
    (c1 : Nat.beq z 0 = false := by rfl) (c2 : zv.cells.size = z := by rfl) (c3 : Nat.beq by_ 0 = false := by rfl) (c4 : notIntD d2 = true := by rfl) :
    RD P T ops ps (⟨some q, .call { callee := .builtin .append, args := #[x, y], argTypes := #[t, t2] }, ty, pos, after, gd⟩ :: os) env n h Q := by
  have hz0 : z ≠ 0 := fun h => by subst h; simp at c1
  have hb0 : by_ ≠ 0 := fun h => by subst h; simp at c3
  have he : EL P t t2 z by_ := ⟨e, d, zv, d2, hu.out, hz.out, hz0, c2, hb0, hu2.out, c4⟩
  by_cases hm : m = 0
  · subst hm
    have h0' : Src AH.empty z (.slice a 0 0) 0 [] := by
      rcases S.shape with ⟨k1, _⟩ | ⟨k1, _⟩
      · subst k1; exact Src.nil
      · rw [k1]
        have := Src.slice (g := AH.empty) (z := z) (b := sb a) (o := so a) (m := 0) (k := 0) (Nat.le_refl _) (by simp [rd, known])
        simpa [rd] using this
    refine RD.op (· = sb a) none' hw (o_append0 he hx hy h0' full_slice) (AH.empty_le _) empty_looks (fun _ e => by subst e; exact hb) (fun b hb => (Dl.touches_nil hb).elim) hc (h1 := h) (by rw [AH.app_nil]; exact .refl _) ?_
    exact K none n h (Nat.le_refl _) (by simpa using OwnSl.nil (Nat.le_refl _)) (Ext.refl _ _)
  · rcases S.shape with ⟨_, k⟩ | ⟨k1, k2, mm, k3, k4⟩
    · exact absurd k hm
    · have S' : SlR (h.only (sb a)) n0 a z m f := ⟨.inr ⟨k1, k2, mm, i_only (by rw [E.info _ k2]; exact k3), k4⟩, fun j hj => c_only ((E.cell _ _ k2).trans (S.cell j hj))⟩
      have hsr := S'.src hk
      have hlx := hsr.length
      refine RD.op (· = sb a) none' hw (o_appendNil he hx hy hsr full_slice hm hbig) (AH.only_le _ _) (fun _ hx => AH.only_looks hx) (fun _ e => by subst e; omega) (fun b hb => ?_) hc (.refl _) (K _ _ _ (Nat.le_succ _) ?_ (Ext.appNew (Nat.le_refl _) (Ext.refl _ _)))
      · rcases hb with h1 | ⟨i, h1⟩ <;> (simp only [Dl.new] at h1; split at h1) <;> first | omega | exact absurd rfl h1
      · rw [hlx]; exact .new (Nat.le_refl _) hlx hk
theorem RD.callP {d : Tmp} {f : FuncId} {xs : List Operand} {vs : List Value} {ts : Array TypeId} {r : Value} {ps : List Ft} (nb : Nat) (hw : wants ops ⟨some d, .call { callee := .value (.func f), args := xs.toArray, argTypes := ts }, ty, pos, after, gd⟩ env = some true)
    (hx : Opds env xs vs) (hev : Ev P none' f vs.toArray n (h.below nb) r n (h.below nb)) (hnb : nb ≤ n) (hc : CF ops ps.length (· < nb) none' ps.length ps) (k : RD P T ops (⟨(· < nb), none', n, n⟩ :: ps) os ((d, r) :: env) n h Q) :
    RD P T ops ps (⟨some d, .call { callee := .value (.func f), args := xs.toArray, argTypes := ts }, ty, pos, after, gd⟩ :: os) env n h Q := by
  rw [← hx.mapA] at hev
  obtain ⟨dl, hle, hwi, ho⟩ := op_call (T := T) (ty := ty) (dst := some d) (pos := pos) (after := after) (gd := gd) (ts := ts) hev (fun _ h => h.elim)
  have hno : ∀ b, ¬ dl.touches b := fun b hb => by
    have := hwi b hb
    rcases this.1 with h1 | h1
    · exact h1
    · omega
  refine RD.op (· < nb) none' hw ho (AH.below_le _ _) (fun _ hx => AH.below_looks hx) (fun _ e => Nat.lt_of_lt_of_le e hnb) (fun b hb => absurd hb (hno b)) hc ?_ k
  have e : h.app dl = h := by
    have hi : ∀ b, dl.info b = none := fun b => Classical.byContradiction fun q => hno b (.inl q)
    have hc : ∀ b i, dl.cell b i = none := fun b i => Classical.byContradiction fun q => hno b (.inr ⟨i, q⟩)
    simp [AH.app, hi, hc]
  rw [e]; exact .refl _
theorem RS.appendZT {q : Tmp} {t t2 e : TypeId} {d : TypeDesc} {kk qq : IntKind} {z by_ : Nat} {zv : Value} {x y : Operand} {a : Option Addr} {n0 m : Nat} {l : Int} {cs : List Value} [hu : Uc P t (.slice e)] [hz : Tc P e d z by_ zv] [hu2 : Uc P t2 (.int qq)]
    (hw : wants ops ⟨some q, .call { callee := .builtin .append, args := #[x, y], argTypes := #[t, t2] }, ty, pos, after, gd⟩ env = some true) (hx : Opd env x (.slice a m m)) (hy : Opd env y (.int kk l)) (hO : OwnSl h n0 n a z m cs) (hl : 0 < l)
    (hT : a ≠ none → T (sb a)) (hbig : (m + l.toNat) * by_ ≤ 140737488355328) (hkn : known (zrow zv.cells.toList l.toNat) = true)
    (K : ∀ a' n1 h1, n ≤ n1 → OwnSl h1 n0 n1 a' z (m + l.toNat) (cs ++ zrow zv.cells.toList l.toNat) → ExtX n a h h1 → (a' = a ∨ n ≤ sb a') → RS P T ops os ((q, .slice a' (m + l.toNat) (m + l.toNat)) :: env) n1 h1 Q)
    (c1 : Nat.beq z 0 = false := by rfl) (c2 : zv.cells.size = z := by rfl) (c3 : Nat.beq by_ 0 = false := by rfl) (c4 : zv.cells.all (flat 8) = true := by first | rfl | (simp [Value.cells, flat]; done)) :
    RS P T ops (⟨some q, .call { callee := .builtin .append, args := #[x, y], argTypes := #[t, t2] }, ty, pos, after, gd⟩ :: os) env n h Q := by
  have hz0 : z ≠ 0 := fun h => by subst h; simp at c1
  have hb0 : by_ ≠ 0 := fun h => by subst h; simp at c3
  have hlim : l.toNat * by_ ≤ 140737488355328 := Nat.le_trans (Nat.mul_le_mul_right _ (by omega)) hbig
  have hY : AppY P t t2 ty e z by_ zv h (ev env y) l.toNat (zrow zv.cells.toList l.toNat) := by
    rw [hy.ev]; exact AppY.zeros hu.out hz.out hz0 hb0 c2 c4 hu2.out (by omega) hlim hkn
  have hlx := hY.len
  have happ : ∀ (l m : List Value), known l = true → known m = true → known (l ++ m) = true := by
    intro l m hl hm
    induction l with
    | nil => exact hm
    | cons v l ih => cases v <;> simp_all [known]
  rcases hO.or with ⟨k1, k2⟩ | ⟨k1, k2, k3, k4, k5⟩
  · subst k1; subst k2
    have : cs = [] := List.eq_nil_of_length_eq_zero (by have := hO.len; omega)
    subst this
    simp only [Nat.zero_add, List.nil_append] at K hbig
    refine RS.mem hw rfl (op_appendNilY hu.out hz.out hz0 c2 hx.ev hY (by omega) hlim) (K _ _ _ (Nat.le_succ _) ?_ ?_ (.inr (Nat.le_refl _)))
    · rw [hlx]; exact .new hO.le hlx hkn
    · exact fun x hx _ => ⟨by simp [AH.app, Dl.new, show x ≠ n by omega], fun i => by simp [AH.app, Dl.new, show x ≠ n by omega]⟩
  · have hx' := hx.ev
    rw [k1] at hx'
    have hop := op_appendY (P := P) (T := T) (n := n) (g := h) (env := env) (dst := some q) (ty := ty) (pos := pos) (after := after) (gd := gd) (mm := ⟨m * z, 0, true, z⟩) false hu.out hz.out hz0 c2 hx' hY k4 rfl rfl rfl (by rw [k5]; exact hO.kn) (.inl (hT (by rw [k1]; simp))) k3 (by omega) hbig
    rw [k5] at hop
    refine RS.mem hw rfl hop (K _ _ _ (Nat.le_succ _) ?_ ?_ (.inr (Nat.le_refl _)))
    · have hl2 : (cs ++ zrow zv.cells.toList l.toNat).length = (m + l.toNat) * z := by rw [List.length_append, hO.len, hlx, Nat.add_mul]
      refine ⟨by have := hO.le; omega, hl2, happ _ _ hO.kn hkn, .inr ⟨rfl, by have := hO.le; show n0 ≤ n; omega, by show n < n + 1; omega, ?_, ?_⟩⟩
      · have := i_take (h := h) (b := sb a) (n := n) (sz := m * z) (lk := 0) (ez := z) (keep := false) (cs := cs ++ zrow zv.cells.toList l.toNat)
        rw [hl2] at this; exact this
      · exact r_take hl2.symm
    · intro x hx hne
      have hne' : x ≠ sb a := by
        rcases hne with h | h
        · rw [h] at k1; cases k1
        · exact h
      exact ⟨by simp [AH.app, Dl.takeover, show x ≠ n by omega, hne'], fun i => by simp [AH.app, Dl.takeover, show x ≠ n by omega, hne']⟩
theorem RS.invoke {d : Tmp} {f : FuncId} {x : Operand} {t : TypeId} {v : Value} {nm : String} {xs : List Operand} {vs : List Value} {ts : Array TypeId} {W : Nat → Prop} {QC : Value → Nat → AH → Prop} [Mc P t nm f]
    (hw : wants ops ⟨some d, .call { callee := .invoke x nm, args := xs.toArray, argTypes := ts }, ty, pos, after, gd⟩ env = some true) (hi : Opd env x (.iface t v)) (hx : Opds env xs vs) (hev : RF P W f (v :: vs).toArray n h QC) (hW : ∀ b, W b → T b)
    (k : ∀ r n1 h1, n ≤ n1 → QC r n1 h1 → RS P T ops os ((d, r) :: env) n1 h1 Q) : RS P T ops (⟨some d, .call { callee := .invoke x nm, args := xs.toArray, argTypes := ts }, ty, pos, after, gd⟩ :: os) env n h Q := by
  obtain ⟨r, n1, h1, hev, hq⟩ := hev
  have hev2 : Ev P W f (#[v] ++ xs.toArray.map (ev env)) n h r n1 h1 := by rw [hx.mapA]; simpa using hev
  obtain ⟨dl, hle, _, ho⟩ := op_invokeC (T := T) (name := nm) (ty := ty) (dst := some d) (pos := pos) (after := after) (gd := gd) (ts := ts) hi.ev hev2 hW
  exact RS.op hw ho hle (k r n1 h1 ho.le hq)
theorem RD.invoke {d : Tmp} {f : FuncId} {x : Operand} {t : TypeId} {v : Value} {nm : String} {xs : List Operand} {vs : List Value} {ts : Array TypeId} {W : Nat → Prop} {QC : Value → Nat → AH → Prop} {ps : List Ft} [Mc P t nm f] (nb : Nat)
    (hw : wants ops ⟨some d, .call { callee := .invoke x nm, args := xs.toArray, argTypes := ts }, ty, pos, after, gd⟩ env = some true) (hi : Opd env x (.iface t v)) (hx : Opds env xs vs) (hev : RF P W f (v :: vs).toArray n (h.below nb) QC) (hW : ∀ b, W b → T b)
    (hnb : nb ≤ n) (hc : CF ops ps.length (· < nb) W ps.length ps) (k : ∀ r n1 h1, n ≤ n1 → QC r n1 h1 → RD P T ops (⟨(· < nb), W, n, n1⟩ :: ps) os ((d, r) :: env) n1 h1 Q) :
    RD P T ops ps (⟨some d, .call { callee := .invoke x nm, args := xs.toArray, argTypes := ts }, ty, pos, after, gd⟩ :: os) env n h Q := by
  obtain ⟨r, n1, h1, hev, hq⟩ := hev
  have hev2 : Ev P W f (#[v] ++ xs.toArray.map (ev env)) n (h.below nb) r n1 h1 := by rw [hx.mapA]; simpa using hev
  obtain ⟨dl, hle, hwi, ho⟩ := op_invokeC (T := T) (name := nm) (ty := ty) (dst := some d) (pos := pos) (after := after) (gd := gd) (ts := ts) hi.ev hev2 hW
  exact RD.op (· < nb) W hw ho (AH.below_le _ _) (fun _ hx => AH.below_looks hx) (fun _ e => Nat.lt_of_lt_of_le e hnb) (fun b hb => (hwi b hb).1) hc (hle.trans ((AH.below_le h nb).app dl)) (k r n1 h1 ho.le hq)
theorem RS.callv {d : Tmp} {f : FuncId} {x : Operand} {caps : List Value} {xs : List Operand} {vs : List Value} {ts : Array TypeId} {W : Nat → Prop} {QC : Value → Nat → AH → Prop}
    (hw : wants ops ⟨some d, .call { callee := .value x, args := xs.toArray, argTypes := ts }, ty, pos, after, gd⟩ env = some true) (hf : Opd env x (.func (.func f) #[] caps.toArray)) (hx : Opds env xs vs) (hev : RF P W f (vs ++ caps).toArray n h QC) (hW : ∀ b, W b → T b)
    (k : ∀ r n1 h1, n ≤ n1 → QC r n1 h1 → RS P T ops os ((d, r) :: env) n1 h1 Q) : RS P T ops (⟨some d, .call { callee := .value x, args := xs.toArray, argTypes := ts }, ty, pos, after, gd⟩ :: os) env n h Q := by
  obtain ⟨r, n1, h1, hev, hq⟩ := hev
  have hev2 : Ev P W f (xs.toArray.map (ev env) ++ caps.toArray) n h r n1 h1 := by rw [hx.mapA]; simpa using hev
  obtain ⟨dl, hle, _, ho⟩ := op_callv (T := T) (ty := ty) (dst := some d) (pos := pos) (after := after) (gd := gd) (ts := ts) hf.ev hev2 hW
  exact RS.op hw ho hle (k r n1 h1 ho.le hq)
theorem RS.appendT {q : Tmp} {t t2 e : TypeId} {d d2 : TypeDesc} {z by_ : Nat} {zv : Value} {x y : Operand} {a : Option Addr} {n0 m k : Nat} {v : Value} {xs cs : List Value} [hu : Uc P t (.slice e)] [hz : Tc P e d z by_ zv] [hu2 : Uc P t2 d2]
    (hw : wants ops ⟨some q, .call { callee := .builtin .append, args := #[x, y], argTypes := #[t, t2] }, ty, pos, after, gd⟩ env = some true) (hx : Opd env x (.slice a m m)) (hy : Opd env y v) (hO : OwnSl h n0 n a z m cs) (hs : Src h z v k xs) (hf : full v k)
    (hT : a ≠ none → T (sb a)) (hbig : (m + k) * by_ ≤ 140737488355328)
    (K : ∀ a' n1 h1, n ≤ n1 → OwnSl h1 n0 n1 a' z (m + k) (cs ++ xs) → ExtX n a h h1 → (a' = a ∨ n ≤ sb a') → RS P T ops os ((q, .slice a' (m + k) (m + k)) :: env) n1 h1 Q)
    (c1 : Nat.beq z 0 = false := by rfl) (c2 : zv.cells.size = z := by rfl) (c3 : Nat.beq by_ 0 = false := by rfl) (c4 : notIntD d2 = true := by rfl) :
    RS P T ops (⟨some q, .call { callee := .builtin .append, args := #[x, y], argTypes := #[t, t2] }, ty, pos, after, gd⟩ :: os) env n h Q := by
  have hz0 : z ≠ 0 := fun h => by subst h; simp at c1
  have hb0 : by_ ≠ 0 := fun h => by subst h; simp at c3
  have he : EL P t t2 z by_ := ⟨e, d, zv, d2, hu.out, hz.out, hz0, c2, hb0, hu2.out, c4⟩
  have hlx := hs.length
  have hkx := hs.known
  have happ : ∀ (l m : List Value), known l = true → known m = true → known (l ++ m) = true := by
    intro l m hl hm
    induction l with
    | nil => exact hm
    | cons v l ih => cases v <;> simp_all [known]
  by_cases hk0 : k = 0
  · subst hk0
    have : xs = [] := List.eq_nil_of_length_eq_zero (by simpa using hlx)
    subst this
    refine RS.put hw rfl (o_append0 he hx hy hs hf) (K a n h (Nat.le_refl _) (by simpa using hO) (fun _ _ _ => ⟨rfl, fun _ => rfl⟩) (.inl rfl))
  · rcases hO.or with ⟨k1, k2⟩ | ⟨k1, k2, k3, k4, k5⟩
    · subst k1; subst k2
      have : cs = [] := List.eq_nil_of_length_eq_zero (by have := hO.len; omega)
      subst this
      simp only [Nat.zero_add, List.nil_append] at K hbig
      refine RS.mem hw rfl (o_appendNil he hx hy hs hf hk0 hbig) (K _ _ _ (Nat.le_succ _) ?_ ?_ (.inr (Nat.le_refl _)))
      · rw [hlx]; exact .new hO.le hlx hkx
      · exact fun x hx _ => ⟨by simp [AH.app, Dl.new, show x ≠ n by omega], fun i => by simp [AH.app, Dl.new, show x ≠ n by omega]⟩
    · have hx' := hx
      rw [k1] at hx'
      refine RS.mem hw rfl (o_append false he hx' hy hs hf k4 k5 hO.kn (.inl (hT (by rw [k1]; simp))) k3 hk0 hbig) (K _ _ _ (Nat.le_succ _) ?_ ?_ (.inr (Nat.le_refl _)))
      · have hl2 : (cs ++ xs).length = (m + k) * z := by rw [List.length_append, hO.len, hlx, Nat.add_mul]
        refine ⟨by have := hO.le; omega, hl2, happ _ _ hO.kn hkx, .inr ⟨rfl, by have := hO.le; show n0 ≤ n; omega, by show n < n + 1; omega, ?_, ?_⟩⟩
        · have := i_take (h := h) (b := sb a) (n := n) (sz := m * z) (lk := 0) (ez := z) (keep := false) (cs := cs ++ xs)
          rw [hl2] at this; exact this
        · exact r_take hl2.symm
      · intro x hx hne
        have hne' : x ≠ sb a := by
          rcases hne with h | h
          · rw [h] at k1; cases k1
          · exact h
        exact ⟨by simp [AH.app, Dl.takeover, show x ≠ n by omega, hne'], fun i => by simp [AH.app, Dl.takeover, show x ≠ n by omega, hne']⟩

theorem RS.append {q : Tmp} {t t2 e : TypeId} {d d2 : TypeDesc} {z by_ : Nat} {zv : Value} {x y : Operand} {a : Option Addr} {n0 m k : Nat} {v : Value} {xs cs : List Value} [hu : Uc P t (.slice e)] [hz : Tc P e d z by_ zv] [hu2 : Uc P t2 d2]
    (hw : wants ops ⟨some q, .call { callee := .builtin .append, args := #[x, y], argTypes := #[t, t2] }, ty, pos, after, gd⟩ env = some true) (hx : Opd env x (.slice a m m)) (hy : Opd env y v) (hO : OwnSl h n0 n a z m cs) (hs : Src h z v k xs) (hf : full v k)
    (hT : ∀ b, n0 ≤ b → T b) (hbig : (m + k) * by_ ≤ 140737488355328)
    (K : ∀ a' n1 h1, n ≤ n1 → OwnSl h1 n0 n1 a' z (m + k) (cs ++ xs) → ExtX n a h h1 → (a' = a ∨ n ≤ sb a') → RS P T ops os ((q, .slice a' (m + k) (m + k)) :: env) n1 h1 Q)
    (c1 : Nat.beq z 0 = false := by rfl) (c2 : zv.cells.size = z := by rfl) (c3 : Nat.beq by_ 0 = false := by rfl) (c4 : notIntD d2 = true := by rfl) :
    RS P T ops (⟨some q, .call { callee := .builtin .append, args := #[x, y], argTypes := #[t, t2] }, ty, pos, after, gd⟩ :: os) env n h Q :=
  RS.appendT hw hx hy hO hs hf (fun q => hT _ (hO.at'.resolve_left q).1) hbig K c1 c2 c3 c4

theorem RF.pure {f : FuncId} {args : Array Value} {v : Value} (hv : flat 8 v = true) (k : ∀ m, n ≤ m → RF P none' f args m h (fun r _ _ => r = v)) : Ev P none' f args n h v n h :=
  Ev.pure (fun _ h => h) hv fun m hm => by
    obtain ⟨r, n', h', hev, rfl⟩ := k m hm
    exact ⟨n', h', hev⟩
theorem none'W {T : Nat → Prop} : ∀ b, none' b → T b := fun _ h => h.elim
end
end Go.Abs

/- What a law's arguments read as, told type by type; lists of data. -/
namespace Go.Abs
open Go.RowKit

theorem list_ex {α : Type} (p : Nat → α → Prop) : ∀ (k : Nat), (∀ i, i < k → ∃ x, p i x) → ∃ l : List α, l.length = k ∧ ∀ i x, l[i]? = some x → p i x
  | 0, _ => ⟨[], rfl, fun i x h => by simp at h⟩
  | k + 1, hp => by
    obtain ⟨l, h1, h2⟩ := list_ex p k fun i hi => hp i (by omega)
    obtain ⟨x, hx⟩ := hp k (by omega)
    refine ⟨l ++ [x], by simp [h1], fun i y h => ?_⟩
    by_cases hi : i < k
    · rw [List.getElem?_append_left (by omega)] at h; exact h2 i y h
    · rw [List.getElem?_append_right (by omega)] at h
      by_cases e : i = k
      · subst e; simp [h1] at h; subst h; exact hx
      · rw [List.getElem?_eq_none (by simp; omega)] at h; cases h

theorem rd_map (h : AH) (b : Nat) : ∀ (k o : Nat), rd h b o k = (List.range k).map fun j => h.cell b (o + j) := by
  intro k o
  apply List.ext_getElem
  · simp [rd_length]
  · intro i h1 h2
    rw [rd_length] at h1
    have := rd_getD h b k o i h1
    simp [List.getD, rd_length, h1] at this
    simpa using this

def updI {α : Type} (f : Nat → α → α) (l : List α) (i : Nat) : List α := l.mapIdx fun j x => if j < i then f j x else x
def boolsV (t : List Bool) : List Value := t.map .bool
def boolsF (t : List Bool) : Nat → Value := fun j => .bool (t.getD j false)
abbrev SlT (h : AH) (n : Nat) (a : Option Addr) (t : List Bool) : Prop := SlR h n a 1 t.length (boolsF t)
def intsV (k : IntKind) (l : List Int) : List Value := l.map (.int k)
def intsF (k : IntKind) (l : List Int) : Nat → Value := fun j => .int k (l.getD j 0)
abbrev SlN (h : AH) (n : Nat) (a : Option Addr) (k : IntKind) (l : List Int) : Prop := SlR h n a 1 l.length (intsF k l)
theorem OwnSl.slt {h : AH} {n0 n m : Nat} {a : Option Addr} {t : List Bool} (o : OwnSl h n0 n a 1 m (boolsV t)) : SlT h n a t := by
  have : m = t.length := by have := o.len; simp [boolsV] at this; omega
  subst this
  exact o.slr.congr fun j hj => by simp [boolsV, boolsF, List.getD, show j < t.length by omega]
section
variable {H : Type} {P : Program} {h : AH} {n : Nat} {t e : TypeId} {cs : List Value} {d : DataW H}
theorem RepD.bool_ (hu : P.underlying t = some .bool) (r : RepD P h t cs d) : ∃ b, cs = [.bool b] := by
  cases r with
  | bool k => exact ⟨_, rfl⟩
  | int k _ => rw [hu] at k; cases k
  | str k _ => rw [hu] at k; cases k
  | nil k => rw [hu] at k; cases k
  | slice k _ _ _ => rw [hu] at k; cases k
  | struct k _ _ _ => rw [hu] at k; cases k
theorem RepD.int_ {q : IntKind} (hu : P.underlying t = some (.int q)) (r : RepD P h t cs d) : ∃ x, cs = [.int q x] ∧ d = .lit (.int q x) ∧ (Lit.int q x).wf = true := by
  cases r with
  | bool k => rw [hu] at k; cases k
  | int k w => rw [hu] at k; cases k; exact ⟨_, rfl, rfl, w⟩
  | str k _ => rw [hu] at k; cases k
  | nil k => rw [hu] at k; cases k
  | slice k _ _ _ => rw [hu] at k; cases k
  | struct k _ _ _ => rw [hu] at k; cases k
theorem RepD.struct_ {fs : Array Field} (hu : P.underlying t = some (.struct fs)) (r : RepD P h t cs d) : ∃ parts, d = .agg parts ∧ cs.length = P.cellsOf t ∧ parts.length = fs.size ∧
    ∀ (i : Nat) (f : Field) (d : DataW H), fs[i]? = some f → parts[i]? = some d → RepD P h f.type ((cs.drop f.offset).take (P.cellsOf f.type)) d := by
  cases r with
  | bool k => rw [hu] at k; cases k
  | int k _ => rw [hu] at k; cases k
  | str k _ => rw [hu] at k; cases k
  | nil k => rw [hu] at k; cases k
  | slice k _ _ _ => rw [hu] at k; cases k
  | struct k h1 h2 h3 => rw [hu] at k; cases k; exact ⟨_, rfl, h1, h2, h3⟩
def elC (h : AH) (a : Option Addr) (z i : Nat) : List Value := (List.range z).map fun j => h.cell (sb a) (so a + (i * z + j))
theorem RepD.slice_ (lo : Low n h) (hu : P.underlying t = some (.slice e)) (r : RepD P h t cs d) : ∃ (a : Option Addr) (elems spare : List (DataW H)), cs = [.slice a elems.length elems.length] ∧ ((d = .nil ∧ elems = []) ∨ d = .slice elems spare) ∧
    SlR h n a (P.cellsOf e) elems.length (fun j => h.cell (sb a) (so a + j)) ∧ ∀ (i : Nat) (x : DataW H), elems[i]? = some x → RepD P h e (elC h a (P.cellsOf e) i) x := by
  cases r with
  | bool k => rw [hu] at k; cases k
  | int k _ => rw [hu] at k; cases k
  | str k _ => rw [hu] at k; cases k
  | nil k => exact ⟨none, [], [], rfl, .inl ⟨rfl, rfl⟩, SlR.nil, fun i x h => by simp at h⟩
  | @slice _ e' b elems spare k hi hl he =>
    rw [hu] at k; cases k
    have hb : b < n := by
      rcases Nat.lt_or_ge b n with h1 | h1
      · exact h1
      · rw [(lo b h1).1] at hi; cases hi
    refine ⟨some ⟨b, 0, none⟩, elems, spare, rfl, .inr rfl, ⟨.inr ⟨rfl, hb, _, hi, rfl⟩, fun j hj => rfl⟩, fun i x hx => ?_⟩
    have := he i x hx
    rw [rd_map] at this
    simpa [elC, sb, so] using this
  | struct k _ _ _ => rw [hu] at k; cases k
theorem RepD.list_ {α : Type} (p : List Value → DataW H → α → Prop) (lo : Low n h) (hu : P.underlying t = some (.slice e)) (hp : ∀ cs d, RepD P h e cs d → ∃ x, p cs d x) (r : RepD P h t cs d) : ∃ (a : Option Addr) (l : List α) (elems spare : List (DataW H)),
    cs = [.slice a l.length l.length] ∧ ((d = .nil ∧ elems = []) ∨ d = .slice elems spare) ∧ elems.length = l.length ∧
    SlR h n a (P.cellsOf e) l.length (fun j => h.cell (sb a) (so a + j)) ∧ ∀ (i : Nat) (x : α), l[i]? = some x → ∃ d, elems[i]? = some d ∧ p (elC h a (P.cellsOf e) i) d x := by
  obtain ⟨a, elems, spare, h1, h2, h3, h4⟩ := r.slice_ lo hu
  obtain ⟨l, k1, k2⟩ := list_ex (fun i x => ∃ d, elems[i]? = some d ∧ p (elC h a (P.cellsOf e) i) d x) elems.length fun i hi => by
    obtain ⟨x, hx⟩ := hp _ _ (h4 i elems[i] (by simp [hi]))
    exact ⟨x, _, by simp [hi], hx⟩
  exact ⟨a, l, elems, spare, by rw [k1]; exact h1, h2, k1.symm, by rw [k1]; exact h3, k2⟩
theorem elC_one {a : Option Addr} {i : Nat} : elC h a 1 i = [h.cell (sb a) (so a + i)] := by simp [elC]
theorem RepD.bools_ (lo : Low n h) (hu : P.underlying t = some (.slice e)) (he : P.underlying e = some .bool) (hz : P.cellsOf e = 1) (r : RepD P h t cs d) : ∃ (a : Option Addr) (l : List Bool) (elems spare : List (DataW H)),
    cs = [.slice a l.length l.length] ∧ ((d = .nil ∧ elems = []) ∨ d = .slice elems spare) ∧ elems.length = l.length ∧ SlT h n a l := by
  obtain ⟨a, l, elems, spare, h1, h2, h3, h4, h5⟩ := r.list_ (fun cs _ (x : Bool) => cs = [.bool x]) lo hu fun _ _ r => r.bool_ he
  rw [hz] at h4 h5
  refine ⟨a, l, elems, spare, h1, h2, h3, h4.congr fun j hj => ?_⟩
  obtain ⟨_, _, k⟩ := h5 j l[j] (by simp [show j < l.length by omega])
  rw [elC_one] at k
  simp only [List.cons.injEq, and_true] at k
  rw [k]; simp [boolsF, List.getD, show j < l.length by omega]
theorem RepD.ints_ {q : IntKind} (lo : Low n h) (hu : P.underlying t = some (.slice e)) (he : P.underlying e = some (.int q)) (hz : P.cellsOf e = 1) (r : RepD P h t cs d) : ∃ (a : Option Addr) (l : List Int) (elems spare : List (DataW H)),
    cs = [.slice a l.length l.length] ∧ ((d = .nil ∧ elems = []) ∨ d = .slice elems spare) ∧ elems.length = l.length ∧ SlN h n a q l ∧ ∀ x, x ∈ l → (Lit.int q x).wf = true := by
  obtain ⟨a, l, elems, spare, h1, h2, h3, h4, h5⟩ := r.list_ (fun cs _ (x : Int) => cs = [.int q x] ∧ (Lit.int q x).wf = true) lo hu fun _ _ r => by
    obtain ⟨x, k1, _, k2⟩ := r.int_ he; exact ⟨x, k1, k2⟩
  rw [hz] at h4 h5
  refine ⟨a, l, elems, spare, h1, h2, h3, h4.congr fun j hj => ?_, fun x hx => ?_⟩
  · obtain ⟨_, _, k, _⟩ := h5 j l[j] (by simp [show j < l.length by omega])
    rw [elC_one] at k
    simp only [List.cons.injEq, and_true] at k
    rw [k]; simp [intsF, List.getD, show j < l.length by omega]
  · obtain ⟨j, hj⟩ := List.getElem?_of_mem hx
    obtain ⟨_, _, _, k⟩ := h5 j x hj
    exact k
theorem RepD.bytes_ (lo : Low n h) (hu : P.underlying t = some (.slice e)) (he : P.underlying e = some (.int .u8)) (hz : P.cellsOf e = 1) (r : RepD P h t cs d) : ∃ (a : Option Addr) (l : List UInt8) (elems spare : List (DataW H)),
    cs = [.slice a l.length l.length] ∧ ((d = .nil ∧ elems = []) ∨ d = .slice elems spare) ∧ elems.length = l.length ∧ SlB h n a l := by
  obtain ⟨a, l, elems, spare, h1, h2, h3, h4, h5⟩ := r.ints_ lo hu he hz
  refine ⟨a, l.map fun x => UInt8.ofNat x.toNat, elems, spare, by simpa using h1, h2, by simpa using h3, ?_⟩
  have : SlR h n a 1 (l.map fun x => UInt8.ofNat x.toNat).length (intsF .u8 l) := by simpa using h4
  refine this.congr fun j hj => ?_
  have hj : j < l.length := by simpa using hj
  have hw := h5 l[j] (List.getElem_mem hj)
  simp [Lit.wf, IntKind.min, IntKind.max, IntKind.signed, IntKind.bits] at hw
  simp [intsF, bytesF, List.getD, hj]
  omega
end

section
variable {H : Type} {enc : TypeId × Value → H} {P : Program}
theorem RepArgs.cons_ {h : AH} {t : TypeId} {ts : List TypeId} {as_ : List Value} {ds : List (DataW H)} (r : RepArgs P h (t :: ts) as_ ds) : ∃ a d as' ds', as_ = a :: as' ∧ ds = d :: ds' ∧ RepA P h t a d ∧ RepArgs P h ts as' ds' := by
  cases r with
  | cons x r => exact ⟨_, _, _, _, rfl, rfl, x, r⟩
theorem RepArgs.nil_ {h : AH} {as_ : List Value} {ds : List (DataW H)} (r : RepArgs P h [] as_ ds) : as_ = [] ∧ ds = [] := by
  cases r; exact ⟨rfl, rfl⟩
theorem RepA.one {h : AH} {t : TypeId} {a : Value} {d : DataW H} {u : TypeDesc} (hu : P.underlying t = some u) (hs : ∀ fs, u ≠ .struct fs) (r : RepA P h t a d) : RepD P h t [a] d := by
  unfold RepA at r
  rw [hu] at r
  cases u with
  | struct fs => exact absurd rfl (hs fs)
  | _ => exact r
theorem RepA.agg {h : AH} {t : TypeId} {a : Value} {d : DataW H} {fs : Array Field} (hu : P.underlying t = some (.struct fs)) (r : RepA P h t a d) : ∃ cs : List Value, a = .agg cs.toArray ∧ RepD P h t cs d := by
  unfold RepA at r
  rw [hu] at r
  exact r
theorem trodAll_after (hl : laidOutB P = true) {W W' : World} (hb : Below W.heap.size W W') : ∀ (ts : List TypeId) (vs : List Value) (ds : List (DataW H)) (ps : List MemPlace), ts.all (fun t => P.readableRec t && decide (t < P.types.size)) = true →
    DataW.TrodAll enc P W 0 (fun _ => true) true ts vs ds ps → DataW.TrodAll enc P W' 0 (fun b => decide (b < W.heap.size)) true ts vs ds ps
  | [], vs, ds, ps, _, h => by
    obtain ⟨rfl, rfl, rfl⟩ := ChangeShapes.trodAll_nil h
    exact rfl
  | t :: ts, vs, ds, ps, hts, h => by
    simp only [List.all_cons, Bool.and_eq_true, decide_eq_true_eq] at hts
    obtain ⟨v, vs', d, ds', p, q, rfl, rfl, rfl, h1, h2⟩ := ChangeShapes.trodAll_cons h
    have hlt : ∀ x ∈ p, x.block < W.heap.size := by obtain ⟨m, hm⟩ := h1; exact DataW.trod_lt m _ _ _ hm
    exact trodAll_cons_mk (Below.trod hl hts.1.1 hts.1.2 h1 hb hlt) (trodAll_after hl hb ts vs' ds' q (by simpa using hts.2) h2)
end
end Go.Abs

/- A row of one's own is cut, copied to, cleared. -/
namespace Go.Abs
open Go.RowKit

@[irreducible] def Dl.cut (b k z : Nat) : Dl := ⟨fun x => if x = b then some (some ⟨k * z, 0, true, z⟩) else none, fun x i => if x = b ∧ k * z ≤ i then some (.tuple #[]) else none⟩
section
variable {h : AH} {b k z : Nat}
theorem cut_info (x : Nat) : (h.app (.cut b k z)).info x = if x = b then some ⟨k * z, 0, true, z⟩ else h.info x := by
  unfold Dl.cut; by_cases e : x = b <;> simp [AH.app, e]
theorem cut_cell (x i : Nat) : (h.app (.cut b k z)).cell x i = if x = b ∧ k * z ≤ i then .tuple #[] else h.cell x i := by
  unfold Dl.cut
  simp only [AH.app]
  split <;> rfl
theorem cut_touches {x : Nat} (h : (Dl.cut b k z).touches x) : x = b := by
  unfold Dl.cut at h
  rcases h with h | ⟨i, h⟩
  · simp only at h; split at h
    · assumption
    · exact absurd rfl h
  · simp only at h; split at h
    · rename_i q; exact q.1
    · exact absurd rfl h
theorem Sim.cut {w0 : Base} {w : World} {ρ : Ren} {H : AH} {m : Nat} (s : Sim w0 ρ H w) (hm : H.info b = some ⟨m * z, 0, true, z⟩) (hk : k ≤ m) : Sim w0 ρ (H.app (.cut b k z)) w := by
  refine s.shrink (fun x m' hx => ?_) (fun x m' o hx ho => ?_) (fun x i => ?_)
  · rw [cut_info] at hx
    by_cases e : x = b
    · subst e
      rw [if_pos rfl] at hx; cases hx
      exact ⟨_, hm, rfl, Nat.mul_le_mul_right _ hk, Nat.zero_le _, fun L i _ ho => ⟨Nat.zero_le _, by simpa using ho.2⟩⟩
    · rw [if_neg e] at hx
      obtain ⟨L, _, _, _, q, _⟩ := s.info x m' hx
      exact ⟨m', hx, rfl, Nat.le_refl _, q, fun _ _ _ ho => ho⟩
  · rw [cut_info] at hx
    by_cases e : x = b
    · rw [if_pos e] at hx; cases hx; cases ho
    · rw [if_neg e] at hx; exact hx
  · rw [cut_cell]
    by_cases e : x = b ∧ k * z ≤ i
    · rw [if_pos e]; exact .inl rfl
    · rw [if_neg e]; exact .inr rfl
end

section
variable {P : Program} {T W : Nat → Prop} {ops : Array Oper} {os : List Oper} {env : Env} {n n1 : Nat} {h h1 g : AH} {Q : Env → Nat → AH → Prop} {ps : List Ft}
variable {dst : Option Tmp} {ty : TypeId} {pos : String} {after : Array Edge} {gd : Option (Nat × Bool)}

theorem OpEv.ghost {o : Oper} {v : Value} {n' : Nat} {d d2 : Dl} (k : OpEv P T o env n g v n' d) (hw : Within T n n' d2) (hs : ∀ w0 ρ w H, (g.app d).le H → Sim w0 ρ H w → Sim w0 ρ (H.app d2) w) : OpEv P T o env n g v n' (d.comp d2) where
  le := k.le
  within := fun b hb => by
    rcases Dl.touches_comp hb with q | q
    · exact k.within b q
    · exact hw b q
  run := fun r w0 ρ w H a next Q hl hf hsim hop K =>
    k.run r w0 ρ w H a next Q hl hf hsim hop fun ρ' c w' hg hv hs' => K ρ' c w' hg hv (by rw [AH.app_comp]; exact hs w0 ρ' w' _ (hl.app d) hs')
theorem op_sliceCut {t e : TypeId} {x y : Operand} {b m : Nat} {u : Nat} {kk : IntKind} {d : TypeDesc} {z by_ : Nat} {zv : Value} (hu : P.underlying t = some (.slice e)) (hz : TI P e d z by_ zv) (hx : ev env x = .slice (some ⟨b, 0, none⟩) m m)
    (hy : ev env y = .int kk (u : Nat)) (hum : u ≤ m) (hm : g.info b = some ⟨m * z, 0, true, z⟩) (hT : T b ∨ n ≤ b) (hb : b < n) :
    OpEv P T ⟨dst, .slice t x none (some y) none, ty, pos, after, gd⟩ env n g (.slice (some ⟨b, 0, none⟩) u u) n (.cut b u z) := by
  have h1 := op_slice (P := P) (T := T) (n := n) (g := g) (env := env) (dst := dst) (ty := ty) (pos := pos) (after := after) (gd := gd) (t := t) (x := x) (lo := none) (hi := some y) (l := 0) (h := u) hu hz hx rfl ⟨kk, hy⟩ (Nat.zero_le _) hum hm (.inr rfl)
  simp only [Nat.zero_mul, Nat.add_zero, Nat.sub_zero] at h1
  have h2 := h1.ghost (d2 := .cut b u z) (fun x hx => by rw [cut_touches hx]; exact ⟨hT, hb⟩) (fun w0 ρ w H hl hs => hs.cut (hl.info b _ (by rw [AH.app_nil]; exact hm)) hum)
  rwa [Dl.nil_comp] at h2

theorem known_take : ∀ (l : List Value) (i : Nat), known l = true → known (l.take i) = true
  | [], i, _ => by simp [known]
  | v :: r, 0, _ => by simp [known]
  | v :: r, i + 1, h => by cases v <;> simp_all [known, known_take r i]
theorem known_drop : ∀ (l : List Value) (i : Nat), known l = true → known (l.drop i) = true
  | [], i, _ => by simp [known]
  | v :: r, 0, h => h
  | v :: r, i + 1, h => by
    have : known r = true := by cases v <;> simp_all [known]
    exact known_drop r i this
theorem known_app : ∀ {l m : List Value}, known l = true → known m = true → known (l ++ m) = true
  | [], m, _, h => h
  | v :: r, m, h, k => by cases v <;> simp_all [known, known_app (l := r) (m := m)]

theorem OwnSl.cut {n0 z m u : Nat} {a : Option Addr} {cs : List Value} (o : OwnSl h n0 n a z m cs) (hu : u ≤ m) : OwnSl (h.app (.cut (sb a) u z)) n0 n a z u (cs.take (u * z)) := by
  have hl : u * z ≤ m * z := Nat.mul_le_mul_right _ hu
  refine ⟨o.le, by rw [List.length_take, o.len]; omega, known_take _ _ o.kn, ?_⟩
  rcases o.or with ⟨k1, k2⟩ | ⟨k1, k2, k3, k4, k5⟩
  · exact .inl ⟨k1, by omega⟩
  · refine .inr ⟨k1, k2, k3, by rw [cut_info, if_pos rfl], ?_⟩
    apply List.ext_getElem
    · rw [rd_length, List.length_take, o.len]; omega
    · intro j h1 h2
      rw [rd_length] at h1
      have e1 := rd_getD (h.app (.cut (sb a) u z)) (sb a) (u * z) 0 j h1
      have e2 : (rd (h.app (.cut (sb a) u z)) (sb a) 0 (u * z)).getD j (.tuple #[]) = (rd (h.app (.cut (sb a) u z)) (sb a) 0 (u * z))[j]'(by rw [rd_length]; exact h1) := by simp [List.getD, rd_length, h1]
      have e3 := rd_getD h (sb a) (m * z) 0 j (by omega)
      rw [k5] at e3
      rw [← e2, e1, cut_cell, if_neg (by omega), ← e3]
      simp [List.getD, show j < cs.length by rw [o.len]; omega]
theorem ExtX.cut {u z : Nat} {a : Option Addr} (e : ExtX n a h h1) (ha : a ≠ none) : ExtX n a h (h1.app (.cut (sb a) u z)) := fun x hx hne => by
  have hx' : x ≠ sb a := hne.resolve_left ha
  have h2 := e x hx hne
  exact ⟨by rw [cut_info, if_neg hx']; exact h2.1, fun i => by rw [cut_cell, if_neg (fun q => hx' q.1)]; exact h2.2 i⟩
def splice {α : Type} (cs : List α) (i : Nat) (vs : List α) : List α := cs.take i ++ vs ++ cs.drop (i + vs.length)
theorem splice_length {α : Type} (cs : List α) (i : Nat) (vs : List α) (h : i + vs.length ≤ cs.length) : (splice cs i vs).length = cs.length := by
  simp only [splice, List.length_append, List.length_take, List.length_drop]; omega
theorem splice_map {α β : Type} (f : α → β) (cs : List α) (i : Nat) (vs : List α) : (splice cs i vs).map f = splice (cs.map f) i (vs.map f) := by
  simp [splice, List.map_take, List.map_drop]
theorem OwnSl.splice {n0 z m i : Nat} {a : Option Addr} {cs vs : List Value} (o : OwnSl h n0 n a z m cs) (hi : i + vs.length ≤ m * z) (hv : known vs = true) : OwnSl (h.app (.sets (sb a) (so a + i) vs)) n0 n a z m (Abs.splice cs i vs) := by
  have hl := o.len
  refine ⟨o.le, by rw [splice_length _ _ _ (by omega)]; exact hl, known_app (known_app (known_take _ _ o.kn) hv) (known_drop _ _ o.kn), ?_⟩
  rcases o.or with ⟨k1, k2⟩ | ⟨k1, k2, k3, k4, k5⟩
  · exact .inl ⟨k1, k2⟩
  · refine .inr ⟨k1, k2, k3, i_sets k4, ?_⟩
    have hso : so a = 0 := by rw [k1]; rfl
    apply List.ext_getElem
    · rw [rd_length, splice_length _ _ _ (by omega)]; exact hl.symm
    · intro j h1 h2
      rw [rd_length] at h1
      have e1 := rd_getD (h.app (.sets (sb a) (so a + i) vs)) (sb a) (m * z) 0 j h1
      have e2 := rd_getD h (sb a) (m * z) 0 j h1
      rw [k5] at e2
      have e3 : (rd (h.app (.sets (sb a) (so a + i) vs)) (sb a) 0 (m * z)).getD j (.tuple #[]) = (rd (h.app (.sets (sb a) (so a + i) vs)) (sb a) 0 (m * z))[j]'(by rw [rd_length]; exact h1) := by simp [List.getD, rd_length, h1]
      rw [← e3, e1]
      simp only [AH.app, Dl.sets, Nat.zero_add, hso] at e2 ⊢
      by_cases hj : i ≤ j ∧ j < i + vs.length
      · rw [if_pos ⟨trivial, hj⟩, Option.getD_some]
        simp only [Abs.splice]
        rw [List.getElem_append_left (by simp only [List.length_append, List.length_take]; omega), List.getElem_append_right (by rw [List.length_take]; omega)]
        have : min i cs.length = i := by omega
        simp [List.getD, this, show j - i < vs.length by omega]
      · rw [if_neg (fun q => hj q.2), Option.getD_none, ← e2]
        simp only [Abs.splice, List.getD]
        by_cases hlt : j < i
        · rw [List.getElem_append_left (by simp only [List.length_append, List.length_take]; omega), List.getElem_append_left (by rw [List.length_take]; omega)]
          rw [List.getElem?_eq_getElem (by omega)]; simp
        · rw [List.getElem_append_right (by simp only [List.length_append, List.length_take]; omega)]
          rw [List.getElem?_eq_getElem (by omega)]
          simp only [List.getElem_drop, List.length_append, List.length_take, Option.getD_some]
          congr 1; omega
theorem OwnSl.spliceB {n0 m i : Nat} {a : Option Addr} {l s : List UInt8} (o : OwnSl h n0 n a 1 m (bytesV l)) (hi : i + s.length ≤ m) : OwnSl (h.app (.sets (sb a) (so a + i) (bytesV s))) n0 n a 1 m (bytesV (Abs.splice l i s)) := by
  have := o.splice (i := i) (vs := bytesV s) (by rw [bytesV_length]; omega) (bytesV_known s)
  have e : bytesV (Abs.splice l i s) = Abs.splice (bytesV l) i (bytesV s) := splice_map _ _ _ _
  rw [e]; exact this
theorem lenOf_slice {a : Option Addr} {m : Nat} {c : Value} {w : World} (h : ∃ ρ, VRel ρ (.slice a m m) c) : (Builtin.lenOf c).run P w = .ok m w := by
  obtain ⟨ρ, h⟩ := h
  cases h <;> rfl
theorem RD.copyB {q : Tmp} {t t2 e : TypeId} {d : TypeDesc} {by_ : Nat} {zv : Value} {x y : Operand} {a c : Option Addr} {n0 m i k nb : Nat} {l s : List UInt8} [hu : Uc P t (.slice e)] [hz : Tc P e d 1 by_ zv]
    (hw : wants ops ⟨some q, .call { callee := .builtin .copy, args := #[x, y], argTypes := #[t, t2] }, ty, pos, after, gd⟩ env = some true) (hx : Opd env x (.slice (sub a i) k k)) (hy : Opd env y (.slice c s.length s.length)) (hO : OwnSl h n0 nb a 1 m (bytesV l)) (S : SlB h nb c s)
    (hik : i + k = m) (hs0 : 0 < s.length) (hsk : s.length ≤ k) (hT : a ≠ none → T (sb a)) (hnb : nb ≤ n) (hc : CF ops ps.length (· < nb) (· = sb a) ps.length ps)
    (K : OwnSl (h.app (.sets (sb a) (so a + i) (bytesV s))) n0 nb a 1 m (bytesV (Abs.splice l i s)) → RD P T ops (⟨(· < nb), (· = sb a), n, n⟩ :: ps) os ((q, .int .i64 s.length) :: env) n (h.app (.sets (sb a) (so a + i) (bytesV s))) Q) :
    RD P T ops ps (⟨some q, .call { callee := .builtin .copy, args := #[x, y], argTypes := #[t, t2] }, ty, pos, after, gd⟩ :: os) env n h Q := by
  have hO' := hO
  rcases hO.or with ⟨k1, k2⟩ | ⟨k1, k2, k3, k4, k5⟩
  · omega
  have hso : so a = 0 := by rw [k1]; rfl
  have hx' : ev env x = .slice (some ⟨sb a, so a + i, none⟩) k k := by rw [hx.ev, k1]; rfl
  have S' : SlB (h.below nb) nb c s := S.ext (AH.below_ext h nb) (Nat.le_refl _)
  have hop := op_copy (P := P) (T := T) (n := n) (g := h.below nb) (env := env) (dst := some q) (ty := ty) (pos := pos) (after := after) (gd := gd) (t := t) (t2 := t2) (z := 1) (k := s.length) (kk := s.length) (m := k) (v := .slice c s.length s.length) hu.out hz.out (by decide) hx' hy.ev
    S'.src (full_slice) (fun c w h => lenOf_slice h) (by omega) (mm := ⟨m * 1, 0, true, 1⟩) (i_below k3 k4) (Nat.zero_le _) (by rw [hso]; simp only [Nat.mul_one]; omega) (.inl (hT (by rw [k1]; simp))) (by omega)
  refine RD.op (· < nb) (· = sb a) hw hop (AH.below_le _ _) (fun _ hx => AH.below_looks hx) (fun _ e => Nat.lt_of_lt_of_le e hnb) (fun b hb => .inl (sets_touches hb)) hc (.refl _) (K ?_)
  exact hO'.spliceB (by omega)
theorem RS.sliceCut {q : Tmp} {t e : TypeId} {d : TypeDesc} {z by_ : Nat} {zv : Value} {x y : Operand} {a : Option Addr} {n0 m u : Nat} {kk : IntKind} {cs : List Value} [hu : Uc P t (.slice e)] [hz : Tc P e d z by_ zv]
    (hw : wants ops ⟨some q, .slice t x none (some y) none, ty, pos, after, gd⟩ env = some true) (hx : Opd env x (.slice a m m)) (hy : Opd env y (.int kk (u : Nat))) (hO : OwnSl h n0 n a z m cs) (hum : u ≤ m)
    (hT : a ≠ none → T (sb a)) (K : ∀ h1, OwnSl h1 n0 n a z u (cs.take (u * z)) → ExtX n a h h1 → RS P T ops os ((q, .slice a u u) :: env) n h1 Q) : RS P T ops (⟨some q, .slice t x none (some y) none, ty, pos, after, gd⟩ :: os) env n h Q := by
  rcases hO.or with ⟨k1, k2⟩ | ⟨k1, k2, k3, k4, k5⟩
  · subst k1; subst k2
    obtain rfl : u = 0 := by omega
    have := op_sliceNil (P := P) (T := T) (n := n) (g := h) (dst := some q) (ty := ty) (pos := pos) (after := after) (gd := gd) (lo := none) (hi := some y) hu.out hz.out hx.ev rfl ⟨kk, hy.ev⟩
    refine RS.put hw rfl this (K h (by simpa using OwnSl.nil hO.le) (fun _ _ _ => ⟨rfl, fun _ => rfl⟩))
  · have hx' := hx.ev
    rw [k1] at hx'
    have hso : so a = 0 := by rw [k1]; rfl
    have := op_sliceCut (P := P) (T := T) (n := n) (g := h) (dst := some q) (ty := ty) (pos := pos) (after := after) (gd := gd) hu.out hz.out hx' hy.ev hum k4 (.inl (hT (by rw [k1]; simp))) k3
    refine RS.mem hw rfl this ?_
    rw [← k1]
    exact K _ (hO.cut hum) (ExtX.cut (fun _ _ _ => ⟨rfl, fun _ => rfl⟩) (by rw [k1]; simp))
theorem op_clear {t e : TypeId} {x : Operand} {d : TypeDesc} {z by_ b o k : Nat} {zv : Value} {mm : Meta} (hu : P.underlying t = some (.slice e)) (hz : TI P e d z by_ zv) (hz0 : z ≠ 0) (hzz : zv.cells.size = z) (hf : zv.cells.all (flat 8) = true) (hkn : known (zrow zv.cells.toList k) = true)
    (hx : ev env x = .slice (some ⟨b, o, none⟩) k k) (hm : g.info b = some mm) (hlk : mm.lock ≤ o) (hin : o + k * z ≤ mm.size) (hT : T b ∨ n ≤ b) (hb : b < n) :
    OpEv P T ⟨dst, .call { callee := .builtin .clear, args := #[x], argTypes := #[t] }, ty, pos, after, gd⟩ env n g (.tuple #[]) n (.sets b o (zrow zv.cells.toList k)) where
  le := Nat.le_refl _
  within := within_sets hT hb
  run := fun rq w0 ρ w H a next Q hl hf' hsim hop K => by
    have h1 := hop x (by simp [Op.operands, Call.operands]); rw [hx] at h1
    have hM := hl.info b mm hm
    obtain ⟨L, hL, kz, k2, k3, k4⟩ := hsim.info b mm hM
    have hr : ∀ w, (underlying t).run P w = .ok (.slice e) w := fun w => by simp [underlying, hu]
    have hxl : (zrow zv.cells.toList k).length = k * z := by rw [zrow_length, Array.length_toList, hzz]
    have hcl : (Builtin.zeroCells zv.cells k).toList.length = k * z := by simp [Builtin.zeroCells, hzz]
    have e0 : (#[t] : Array TypeId)[0]? = some t := rfl
    have key : ∀ (A : Addr) (C : Nat), a.eval x = .slice (some A) k C → (k = 0 ∨ A = ⟨L.blk, L.off + o, none⟩) →
        (Oper.wpIn (FW rq) 0 P ⟨dst, .call { callee := .builtin .clear, args := #[x], argTypes := #[t] }, ty, pos, after, gd⟩ a w next Q) := by
      intro A C hcx hA
      have e2 : (#[Value.slice (some A) k C] : Array Value)[0]? = some (.slice (some A) k C) := rfl
      by_cases hk0 : k = 0
      · subst hk0
        have hxs : zrow zv.cells.toList 0 = [] := List.eq_nil_of_length_eq_zero (by rw [hxl, Nat.zero_mul])
        have hrun : (Builtin.clear_ #[t] ty #[.slice (some A) 0 C]).run P w = .ok (.tuple #[]) w := by
          simp only [Builtin.clear_, e0, e2, Sem.run_bind, hr, Result.andThen_ok, Sem.run_pure]
        have hexec : (execOp a.eval ⟨dst, .call { callee := .builtin .clear, args := #[x], argTypes := #[t] }, ty, pos, after, gd⟩).run P w = .ok (.value (.tuple #[])) w := by
          simp [execOp, resolve, invoke, builtin, hcx, hrun]
        refine wpA_value hexec ?_
        exact K ρ _ _ (.refl _ _ _) (.unk _) (by rw [hxs, app_sets_nil]; exact hsim)
      · have hA := hA.resolve_left hk0
        subst hA
        obtain ⟨k', rfl⟩ : ∃ k', k = k' + 1 := ⟨k - 1, by omega⟩
        obtain ⟨e4, e5⟩ := hsim.storeCells (P := P) (o := o) hM hL (zrow zv.cells.toList (k' + 1)) (Builtin.zeroCells zv.cells (k' + 1)).toList (by omega) (fun j hj => ⟨by omega, by split <;> omega⟩) (fun j hj => by
          have := zrow_rel (ρ := ρ) hf (k' + 1) (k' + 1) (Nat.le_refl _) j hj
          have e9 : (Builtin.zeroCells zv.cells (k' + 1)).toList.getD j (.tuple #[]) = (Builtin.zeroCells zv.cells (k' + 1)).getD j (.tuple #[]) := by simp [Array.getD_eq_getD_getElem?, List.getD]
          rw [e9]; exact this) hkn
        have hrun : (Builtin.clear_ #[t] ty #[.slice (some ⟨L.blk, L.off + o, none⟩) (k' + 1) C]).run P w = .ok (.tuple #[]) (w.setCells L.blk (L.off + o) (Builtin.zeroCells zv.cells (k' + 1)).toList) := by
          simp only [Builtin.clear_, e0, e2, Sem.run_bind, hr, Result.andThen_ok, hz.run_zeroValue, e4, Sem.run_pure]
        have hexec : (execOp a.eval ⟨dst, .call { callee := .builtin .clear, args := #[x], argTypes := #[t] }, ty, pos, after, gd⟩).run P w = .ok (.value (.tuple #[])) (w.setCells L.blk (L.off + o) (Builtin.zeroCells zv.cells (k' + 1)).toList) := by
          simp [execOp, resolve, invoke, builtin, hcx, hrun]
        refine wpA_value hexec ?_
        exact K ρ _ _ (.refl _ _ _) (.unk _) e5
    generalize hcx : a.eval x = q at h1
    cases h1 with
    | @slice _ _ _ L' C hL' hmC hcc =>
      rw [hL] at hL'; cases hL'
      exact key _ C hcx (.inr rfl)
    | slice0 A hL' => exact key A 0 hcx (.inl (by omega))
theorem RS.clear {t e : TypeId} {d : TypeDesc} {z by_ : Nat} {zv : Value} {x : Operand} {a : Option Addr} {n0 m i k : Nat} {cs : List Value} [hu : Uc P t (.slice e)] [hz : Tc P e d z by_ zv]
    (hw : wants ops ⟨none, .call { callee := .builtin .clear, args := #[x], argTypes := #[t] }, ty, pos, after, gd⟩ env = some true) (hx : Opd env x (.slice (sub a (i * z)) k k)) (hO : OwnSl h n0 n a z m cs) (hik : i + k = m) (ha : a ≠ none) (hT : T (sb a))
    (hkn : known (zrow zv.cells.toList k) = true)
    (K : OwnSl (h.app (.sets (sb a) (so a + i * z) (zrow zv.cells.toList k))) n0 n a z m (Abs.splice cs (i * z) (zrow zv.cells.toList k)) → RS P T ops os env n (h.app (.sets (sb a) (so a + i * z) (zrow zv.cells.toList k))) Q)
    (c1 : Nat.beq z 0 = false := by rfl) (c2 : zv.cells.size = z := by rfl) (c4 : zv.cells.all (flat 8) = true := by first | rfl | (simp [Value.cells, flat]; done)) :
    RS P T ops (⟨none, .call { callee := .builtin .clear, args := #[x], argTypes := #[t] }, ty, pos, after, gd⟩ :: os) env n h Q := by
  have hz0 : z ≠ 0 := fun h => by subst h; simp at c1
  rcases hO.or with ⟨k1, k2⟩ | ⟨k1, k2, k3, k4, k5⟩
  · exact absurd k1 ha
  have hso : so a = 0 := by rw [k1]; rfl
  have hx' : ev env x = .slice (some ⟨sb a, so a + i * z, none⟩) k k := by rw [hx.ev, k1]; rfl
  have hop := op_clear (P := P) (T := T) (n := n) (g := h) (env := env) (dst := none) (ty := ty) (pos := pos) (after := after) (gd := gd) (t := t) hu.out hz.out hz0 c2 c4 hkn hx' k4 (Nat.zero_le _) (by rw [hso]; simp only [Nat.zero_add]; rw [← Nat.add_mul, hik]; exact Nat.le_refl _) (.inl hT) k3
  refine RS.op hw hop (.refl _) (K (hO.splice ?_ hkn))
  rw [zrow_length, Array.length_toList, c2, ← Nat.add_mul, hik]
  exact Nat.le_refl _
end
end Go.Abs

/- Structs of numbers, truths and texts, held against each other. -/
namespace Go.Abs
open Go.RowKit

def scal : Value → Bool
  | .int _ _ | .bool _ | .string _ => true
  | _ => false
section
variable {P : Program} {T : Nat → Prop} {env : Env} {n : Nat} {g : AH}
variable {dst : Option Tmp} {ty : TypeId} {pos : String} {after : Array Edge} {gd : Option (Nat × Bool)}
end
end Go.Abs
