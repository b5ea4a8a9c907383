/- Own theory, part 25: whole numbers turned into others; in drawn regions too. Conditions: facts on the program's types. -/
import Derived.Test.YtkppboglffdmnaaTjY
namespace Go.TJ
open Go Go.Conc
variable {Γ : Type}
section
variable {P : Program} {main : Bool} {S : Sit Γ} {f : FuncId} {n : Nat} {k : List Item} {env : Env} {ds : List Deferred} {h : Hp} {δ : Ix Γ} {R : Post Γ}
variable {ops : Array Oper} {l : List Oper} {d : Nat} {ty : TypeId} {pos : String} {af : Array Edge} {g : Option (Nat × Bool)} {Z : Hp → Prop} {zz : Nat} {m : Nat} {listed l' : Array Bool}

theorem sem_conv {src dst : TypeId} {sd : IntKind} {dd : IntKind} [hs : Und P src (.int sd)] [hd : Und P dst (.int dd)] {x : Operand} {kd : IntKind} {a r : Int} {ρ : Operand → Value} {dst' : Option Nat} {Q : Next → Hp → Ix Γ → Prop} {X : Value → Hp → Ix Γ → Prop} (hx : ρ x = .int kd a) (hr : dd.wrap a = r) (hq : Q (.value (.int dd r)) h δ) :
    SemW P S (execOp ρ ⟨dst', .convert src dst x, ty, pos, af, g⟩) h δ Q X := by
  show SemW P S (convert src dst (ρ x) >>= fun v => pure (.value v)) h δ Q X
  rw [hx]
  refine semW_bind _ _ _ _ _ _ ?_
  unfold convert
  refine semW_underlying hs.out (semW_underlying hd.out ?_)
  show SemW P S (Conv.intToInt dd a) h δ _ X
  subst hr
  exact hq

theorem ER.conv {src dst : TypeId} {sd dd : IntKind} [Und P src (.int sd)] [Und P dst (.int dd)] {x : Operand} {kd : IntKind} {a r : Int} (hw : wantE ops env g = some true) (hd : Nat.blt d n = true) (hx : ev env x = some (.int kd a)) (hr : dd.wrap a = r)
    (hn : ER P main S f n ops l k ((d, .int dd r) :: env) ds h δ R) : ER P main S f n ops (⟨some d, .convert src dst x, ty, pos, af, g⟩ :: l) k env ds h δ R :=
  ER.to hw hd (fun ρ Q X hρ hq => sem_conv (hρ _ _ hx) hr hq) hn
theorem EA.tConv (i : Nat) {src dst : TypeId} {sd dd : IntKind} [Und P src (.int sd)] [Und P dst (.int dd)] {x : Operand} {kd : IntKind} {a r : Int} (hi : ops[i]? = some ⟨some d, .convert src dst x, ty, pos, af, g⟩) (hs : (Region.noSelect ops && TJ.Region.pinned ops zz i) = true) (hf : Region.free .any ops listed i = true) (hr : (Region.ready .any ops listed).contains i = true) (hl : listed.setIfInBounds i true = l')
    (hd : Nat.blt d n = true) (hw : wantE ops env g = some true) (hx : ev env x = some (.int kd a)) (hrr : dd.wrap a = r) (hZ : Z h)
    (hn : EA P main S f n ops Z zz m l' k ((d, .int dd r) :: env) ds h δ R) : EA P main S f n ops Z zz (m + 1) listed k env ds h δ R :=
  EA.take i hi hs hf hr hl hd hw (fun _ _ _ _ _ hρ _ hq => sem_conv (hρ _ _ hx) hrr hq) hZ hn

theorem stepG_scope {P : Program} {main : Bool} {b : Frame} {a : Act} {k : List Item} {cs : List Frame} {w : World} {c : Code} : stepG P main (G (b.at a (.code (.scope c) :: k)) cs) w = .go (G (b.at a (.code c :: .inScope c :: k)) cs) w := by simp [G, stepG, stepG.exec, Frame.at]
theorem stepG_inScope {P : Program} {main : Bool} {b : Frame} {a : Act} {k : List Item} {cs : List Frame} {w : World} {c : Code} : stepG P main (G (b.at a (.inScope c :: k)) cs) w = .go (G (b.at a k) cs) w := by simp [G, stepG, stepG.exec, Frame.at]
theorem EK.scope {c : Code} (hw : EK P main S f n (.code c :: .inScope c :: k) env ds h δ R) : EK P main S f n (.code (.scope c) :: k) env ds h δ R := fun a ka kind hk cs => .ctl rfl (fun _ => stepG_scope) (hw a ka kind hk cs)
theorem EK.inScope {c : Code} (hw : EK P main S f n k env ds h δ R) : EK P main S f n (.inScope c :: k) env ds h δ R := fun a ka kind hk cs => .ctl rfl (fun _ => stepG_inScope) (hw a ka kind hk cs)
end
end Go.TJ
