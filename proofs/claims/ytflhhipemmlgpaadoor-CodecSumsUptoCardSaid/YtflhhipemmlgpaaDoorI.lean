/- Contracts of codec: room for bytes, bytes put together. -/
import Derived.Test.YtflhhipemmlgpaaDoorH
set_option linter.unusedSimpArgs false
set_option linter.unusedVariables false
namespace Go.Proofs.YtflhhipemmlgpaaDoor
open Go.Abs Go.RowKit

theorem op_cap0 {P : Program} {T : Nat → Prop} {env : Env} {n : Nat} {g : AH} {dst : Option Tmp} {ty : TypeId} {pos : String} {after : Array Edge} {gd : Option (Nat × Bool)} {x : Operand} {t e : TypeId} [hu : Uc P t (.slice e)] (hx : Opd env x (.slice none 0 0)) :
    OpEv P T ⟨dst, .call { callee := .builtin .cap, args := #[x], argTypes := #[t] }, ty, pos, after, gd⟩ env n g (.int .i64 0) n .nil :=
  .calc fun ρ w ce h => by
    have h1 := h x (by simp [Op.operands, Call.operands]); rw [hx.ev] at h1
    have hr : (underlying t).run P w = .ok (.slice e) w := by simp [underlying, hu.out]
    generalize hc : ce x = cc at h1
    refine ⟨_, ?_, .int _ _⟩
    cases h1
    simp [execOp, resolve, invoke, builtin, Builtin.cap_, hr, hc, goInt]
theorem known_replicate (v : Value) (k : Nat) (h : known [v] = true) : known (List.replicate k v) = true := by
  induction k with
  | zero => rfl
  | succ k ih => rw [List.replicate_succ]; cases v <;> simp_all [known]
set_option maxHeartbeats 4000000 in
theorem grow_rf (k : Int) (h0 : 0 ≤ k) (hk : k ≤ 1099511627776) (n : Nat) (h : AH) :
    RF Tryd.prog none' 61 #[.slice none 0 0, .int .i64 k] n h (fun r n' h' => ∃ a', r = .slice a' 0 0 ∧ Ext n h h' ∧ OwnSl h' n n' a' 1 0 []) := by
  refine RF.of Tryd.func61 rfl rfl (Nat.le_of_ble_eq_true rfl) ?_; dsimp only [argEnv]
  repeat' (first | refine stpS ?_ | (refine stp2 ?_ ?_ <;> intro _))
  refine RS.put (v := .int .i64 0) rfl rfl (op_cap0 opd) ?_
  by_cases q : 0 < k
  · repeat' (first | refine stpS ?_ | (refine stp2 ?_ ?_ <;> intro _))
    refine RS.put (v := .int .i64 0) rfl rfl (op_cap0 opd) ?_
    have ek : k - (0 - ((0 : Nat) : Int)) = k := by omega
    repeat' (first | refine stpS ?_ | (refine stp2 ?_ ?_ <;> intro _))
    rw [ek]
    refine RS.put (v := .slice none 0 0) rfl rfl (op_sliceNil (lo := none) Uc.out Tc.out (Opd.ev opd) rfl ⟨_, Opd.ev opd⟩) ?_
    repeat' (first | refine stpS ?_ | (refine stp2 ?_ ?_ <;> intro _))
    refine RS.appendZT rfl opd opd (OwnSl.nil (h := h) (n0 := n) (z := 1) (Nat.le_refl n)) q (fun q => absurd rfl q) (by omega) (by show known (zrow [.int .u8 0] _) = true; rw [zrow_one]; exact known_replicate _ _ rfl) ?_
    intro a2 n2 h2 hle2 hO2 hX2 hnew
    repeat' (first | refine stpS ?_ | (refine stp2 ?_ ?_ <;> intro _))
    refine RS.sliceCut (u := 0) rfl opd opd hO2 (Nat.zero_le _) (fun q => .inr (hnew.resolve_left q)) ?_
    intro h3 hO3 hX3
    have hE2 := hX2.ext (OwnSl.nil (h := h) (n0 := n) (z := 1) (Nat.le_refl n))
    have hE3 := hX3.ext hO2
    repeat' (first | refine stpS ?_ | (refine stp2 ?_ ?_ <;> intro _))
    exact ⟨a2, rfl, ext, hO3⟩
  · repeat' (first | refine stpS ?_ | (refine stp2 ?_ ?_ <;> intro _))
    exact ⟨none, rfl, ext, OwnSl.nil (Nat.le_refl _)⟩
end Go.Proofs.YtflhhipemmlgpaaDoor
