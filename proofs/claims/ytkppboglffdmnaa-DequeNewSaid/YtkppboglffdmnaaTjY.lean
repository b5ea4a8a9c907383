/- Own theory, part 24: a result that is a struct in a variable of its own; a slice that owns its block, opened. Conditions: as the lemmas say. -/
import Derived.Test.YtkppboglffdmnaaTjX
namespace Go.TJ
open Go Go.Conc
variable {Γ : Type}
section
variable {P : Program} {main : Bool} {S : Sit Γ} {f : FuncId} {n : Nat} {k : List Item} {env : Env} {ds : List Deferred} {h : Hp} {δ : Ix Γ} {R : Post Γ}

theorem reads_cell {fn : Func} {tmps : Array Value} {t : Tmp} {cT m : Nat} [Aggr P cT m] {b off : Nat} {vs : List Value} (hr : fn.results = #[.cell t cT]) (ht : tmps.getD t undef = .pointer (some ⟨b, off, none⟩)) (hm : vs.length = m) (hc : hrow h b off vs) :
    Reads P fn tmps h (.agg vs.toArray) := by
  intro w hw
  subst hw
  obtain ⟨es', h1, h2⟩ := runT_loadVarN (P := P) (t := cT) hm hc #[]
  refine ⟨es', ?_, h2⟩
  have e1 : Sem.run P (loadVar cT ⟨b, off, none⟩) w = .ok (.agg vs.toArray) w := by simpa using congrArg Prod.fst h1
  have e2 : Sem.events P (loadVar cT ⟨b, off, none⟩) w #[] = es' := by simpa using congrArg Prod.snd h1
  have ha : asAddr (.pointer (some ⟨b, off, none⟩)) = pure ⟨b, off, none⟩ := rfl
  have ht' : tmps[t]?.getD undef = .pointer (some ⟨b, off, none⟩) := by rw [← ht, Array.getD_eq_getD_getElem?]
  simp [results, hr, ht', ha, e1, e2, Result.andThen]

theorem EU.retCell1 {fn : Func} {t : Tmp} {cT m : Nat} [Aggr P cT m] {b off : Nat} {vs : List Value} [hf : IsFn P f fn] (hr : fn.results = #[.cell t cT]) (ht : look env t = some (.pointer (some ⟨b, off, none⟩))) (hm : vs.length = m) (hc : hrow h b off vs)
    (hR : R (.ret (.agg vs.toArray)) h δ) : EU P main S f n .returning env [] h δ R :=
  fun _ ka => WU.ret0 ka.defers hf.out (reads_cell hr (getD_of_look ka ht) hm hc) hR
end

theorem SliceO.open1 {h : Hp} {s : Value} {e : TypeId} {v : Value} (x : SliceO h s e 1 1 [v]) : ∃ b cap, s = .slice (some ⟨b, 0, none⟩) 1 cap ∧ hcell h ⟨b, 0, none⟩ = some v := by
  obtain ⟨_, ⟨_, hn⟩ | ⟨b, cap, rest, rfl, h1, h2, h3⟩⟩ := x
  · omega
  · exact ⟨b, cap, rfl, hcell_of h3 (by simp)⟩
theorem row_set {h : Hp} {b e : Nat} {fz : Nat × Nat} {c vs : List Value} (hb : h[b]? = some (.cells c.toArray e fz)) (hl : c.length = vs.length) : hsetRow h b 0 vs = h.setIfInBounds b (.cells vs.toArray e fz) := by
  rw [hsetRow_block vs 0 h c hb (by omega)]
  congr 3
  simp [← hl]

/-- Of the heap this alone is kept in mind. -/
theorem ER.gen {P : Program} {main : Bool} {S : Sit Γ} {f : FuncId} {n : Nat} {ops : Array Oper} {l : List Oper} {k : List Item} {env : Env} {ds : List Deferred} {h : Hp} {δ : Ix Γ} {R : Post Γ} (F : Hp → Prop) (hF : F h) (hn : ∀ h', F h' → ER P main S f n ops l k env ds h' δ R) : ER P main S f n ops l k env ds h δ R := hn h hF
theorem EK.gen {P : Program} {main : Bool} {S : Sit Γ} {f : FuncId} {n : Nat} {k : List Item} {env : Env} {ds : List Deferred} {h : Hp} {δ : Ix Γ} {R : Post Γ} (F : Hp → Prop) (hF : F h) (hn : ∀ h', F h' → EK P main S f n k env ds h' δ R) : EK P main S f n k env ds h δ R := hn h hF

theorem push2 (h : Hp) (a b : Obj) : Upd (fun _ => False) h ((h.push a).push b) ∧ ((h.push a).push b).size = h.size + 2 ∧ ((h.push a).push b)[h.size]? = some a ∧ ((h.push a).push b)[h.size + 1]? = some b := by
  refine ⟨(Upd.push _ _).trans (Upd.push _ _), by simp, get_push _ (get_push_new _ _), ?_⟩
  have := get_push_new (h.push a) b
  rw [Array.size_push] at this
  exact this
theorem push3 (h : Hp) (a b c : Obj) : Upd (fun _ => False) h (((h.push a).push b).push c) ∧ (((h.push a).push b).push c).size = h.size + 3 ∧ (((h.push a).push b).push c)[h.size]? = some a ∧ (((h.push a).push b).push c)[h.size + 1]? = some b ∧ (((h.push a).push b).push c)[h.size + 2]? = some c := by
  obtain ⟨u, s, g0, g1⟩ := push2 h a b
  refine ⟨u.trans (Upd.push _ _), by simp, get_push _ g0, get_push _ g1, ?_⟩
  have := get_push_new ((h.push a).push b) c
  rw [s] at this
  exact this
theorem push5 (h : Hp) (a b c d e : Obj) : Upd (fun _ => False) h (((((h.push a).push b).push c).push d).push e) ∧ (((((h.push a).push b).push c).push d).push e).size = h.size + 5 ∧ (((((h.push a).push b).push c).push d).push e)[h.size]? = some a ∧ (((((h.push a).push b).push c).push d).push e)[h.size + 1]? = some b ∧
    (((((h.push a).push b).push c).push d).push e)[h.size + 2]? = some c ∧ (((((h.push a).push b).push c).push d).push e)[h.size + 3]? = some d ∧ (((((h.push a).push b).push c).push d).push e)[h.size + 4]? = some e := by
  obtain ⟨u, s, g0, g1, g2⟩ := push3 h a b c
  obtain ⟨u', s', g3, g4⟩ := push2 (((h.push a).push b).push c) d e
  rw [s] at g3 g4 s'
  exact ⟨u.trans u', by rw [s'], u'.get g0 (fun x => x), u'.get g1 (fun x => x), u'.get g2 (fun x => x), g3, g4⟩
end Go.TJ
