/- Cam, part O: every operation that is served. -/
import Derived.Test.YtiagdfbhagiigaaGreatCamN
namespace Cam
open Go Go.Lib
section
variable {X : Type}
def val (h : CHeap X) : Option SV → Option (CNext X)
  | some v => some (.value v h)
  | none => none
def valh : Option (SV × CHeap X) → Option (CNext X)
  | some (v, h) => some (.value v h)
  | none => none
def unit : Option (CHeap X) → Option (CNext X)
  | some h => some (.skip h)
  | none => none

theorem val_some {h : CHeap X} {o : Option SV} {r : CNext X} (hy : val h o = some r) : ∃ v, o = some v ∧ r = .value v h := by
  cases o with
  | none => cases hy
  | some v => cases hy; exact ⟨v, rfl, rfl⟩
theorem valh_some {o : Option (SV × CHeap X)} {r : CNext X} (hy : valh o = some r) : ∃ v h, o = some (v, h) ∧ r = .value v h := by
  cases o with
  | none => cases hy
  | some v => cases hy; exact ⟨v.1, v.2, rfl, rfl⟩
theorem unit_some {o : Option (CHeap X)} {r : CNext X} (hy : unit o = some r) : ∃ h, o = some h ∧ r = .skip h := by
  cases o with
  | none => cases hy
  | some v => cases hy; exact ⟨v, rfl, rfl⟩

end
variable {X : Type} [AbsRep X] {P : Program}

def ccall (cfg : Cfg P) (h : CHeap X) (ρ : Operand → SV) (c : Call) : Option (CNext X) :=
  match c.callee with
  | .builtin b => cbuiltin cfg h b c.argTypes.toList (c.args.toList.map ρ)
  | .invoke recv name => cinvoke cfg h (.method name) [] (ρ recv :: c.args.toList.map ρ)
  | .value f => (match ρ f with
    | .yld n => some (.round n (c.args.toList.map ρ))
    | fv => (match fv.fn? with
      | some (fn, first, cap) => cinvoke cfg h fn cap (first ++ c.args.toList.map ρ)
      | none => none))

theorem RL.map {E : Env} {α : Type} {f : α → SV} {g : α → Value} (h : ∀ x, R E (f x) (g x)) : ∀ l : List α, RL E (l.map f) (l.map g)
  | [] => .nil
  | a :: l => .cons (h a) (RL.map h l)

theorem map_arr {ρ' : Operand → Value} (a : Array Operand) : a.map ρ' = (a.toList.map ρ').toArray := by apply Array.ext'; simp

theorem ccall_ok (cfg : Cfg P) {E : Env} {own : Own} {h : CHeap X} {w : World} (e : Emb E own h w) {ρ : Operand → SV} {ρ' : Operand → Value} (hρ : ∀ x, R E (ρ x) (ρ' x)) (c : Call) (ty : TypeId)
    {r : CNext X} (hy : ccall cfg h ρ c = some r) : OpOK P E own h w (do let d ← resolve ρ' c ty; invoke d.target d.args) r := by
  have hargs := RL.map hρ c.args.toList
  unfold ccall at hy
  split at hy
  · rename_i b hb
    have := cbuiltin_ok cfg e ty (c.args.map fun | .const _ => true | _ => false) hargs hy
    simp only [resolve, hb, pure_bind, map_arr (ρ' := ρ')]
    exact this
  · rename_i recv name hb
    have := cinvoke_ok cfg e (cap := []) (cap' := []) (args' := ρ' recv :: c.args.toList.map ρ') .nil (.cons (hρ recv) hargs) hy
    have harr : #[ρ' recv] ++ c.args.map ρ' = (ρ' recv :: c.args.toList.map ρ').toArray := by apply Array.ext'; simp
    simp only [resolve, hb, pure_bind, harr]
    exact this
  · rename_i f hb
    split at hy
    · rename_i n hf
      cases hy
      have hr := hρ f
      rw [hf] at hr
      generalize hv : ρ' f = v at hr
      cases hr with
      | @yld _ nb hn =>
        refine ⟨nb, _, hn, hargs, ?_⟩
        have harr : #[] ++ c.args.map ρ' = (c.args.toList.map ρ').toArray := by apply Array.ext'; simp
        simp only [resolve, hb, hv, Deferred.ofValue, pure_bind, invoke, harr]
    · rename_i fv hne
      split at hy
      · rename_i fn first cap hfn
        obtain ⟨a', c', hv, h1, h2⟩ := SV.fn_eq hfn (hρ f)
        have := cinvoke_ok cfg e h2 (h1.append hargs) hy
        have harr : a'.toArray ++ c.args.map ρ' = (a' ++ c.args.toList.map ρ').toArray := by apply Array.ext'; simp
        simp only [resolve, hb, hv, Deferred.ofValue, pure_bind, harr]
        exact this
      · cases hy

/-- The entry at which a walk stands. -/
def ventry (h : CHeap X) : SV → Option SV
  | .ptr r 0 => match h.get r with
    | some (.iter (some m) _ seen stepped) => (match h.get m, seen.getLast? with
      | some (.map es clock), some b => if clock = stepped then (match es.find? (fun e => e.2.1 == b) with
        | some (k, _, x) => some (.tup [.sc k, x])
        | none => none) else none
      | _, _ => none)
    | _ => none
  | _ => none

theorem ME.find {E : Env} (p : Nat → Bool) : ∀ {es : List (Value × Nat × SV)} {es' : List MapEntry} {k : Value} {b : Nat} {x : SV}, ME E es es' → es.find? (fun e => p e.2.1) = some (k, b, x) →
    ∃ v, es'.find? (fun e => p e.born) = some { key := k, val := v, born := b } ∧ R E x v
  | _, _, k, b, x, .nil, h => by simp at h
  | _, _, k, b, x, .cons (b := b0) hx hl, h => by
    rw [List.find?_cons] at h ⊢
    cases hp : p b0 with
    | true =>
      simp only [hp] at h ⊢
      cases h
      exact ⟨_, rfl, hx⟩
    | false =>
      simp only [hp] at h ⊢
      exact ME.find p hl h

theorem ventry_ok {E : Env} {own : Own} {h : CHeap X} {w : World} (e : Emb E own h w) {x y : SV} {v : Value} (hx : R E x v) (hy : ventry h x = some y) : ∃ r, (Instr.entry v).run P w = .ok r w ∧ R E y r := by
  unfold ventry at hy
  split at hy
  · rename_i r
    cases hx with
    | @ptr _ _ nb hn =>
      split at hy
      · rename_i m since seen stepped hg
        obtain ⟨nb', hn', hown, hb0, mb, hm, hheap⟩ := e.ch r _ hg
        rw [hn] at hn'; cases hn'
        split at hy
        · rename_i es clock b hgm hb
          obtain ⟨mb', entries, g1, g2, g3⟩ := emb_map e hgm
          rw [hm] at g1; cases g1
          split at hy
          · rename_i hcl
            split at hy
            · rename_i k b' x hf
              cases hy
              obtain ⟨u, q1, q2⟩ := g2.find (fun c => c == b) hf
              refine ⟨.tuple #[k, u], ?_, .tup (.cons (.sc _) (.cons q2 .nil))⟩
              have hbk : seen.toArray.back? = some b := by simp [hb]
              simp [Instr.entry, hb0, run_getObj_iter hheap, hbk, run_getObj_map g3, hcl, q1]
            · cases hy
          · cases hy
        · cases hy
      · cases hy
  · cases hy

def cop (cfg : Cfg P) (h : CHeap X) (ρ : Operand → SV) (o : Oper) : Option (CNext X) :=
  match o.op with
  | .move x => some (.value (ρ x) h)
  | .assign x => some (.value (ρ x) h)
  | .pick c a b => (match svBool (ρ c) with | some q => some (.value (if q then ρ a else ρ b) h) | none => none)
  | .alloc t => (match cfg.I t with | some i => valh (some (vbox h t (.sc i.zero))) | none => none)
  | .box t x => valh (some (vbox h t (ρ x)))
  | .build t parts => val h (vbuild cfg t (parts.toList.map fun p => (p.1, ρ p.2)))
  | .buildSlice t len parts => valh (vbuildSlice cfg h t len (parts.toList.map fun p => (p.1, ρ p.2)))
  | .load t a => val h (vload cfg h t (ρ a))
  | .store t a x => unit (vstore cfg h t (ρ x) (ρ a))
  | .nilCheck x => if vnil (ρ x) then some (.value (ρ x) h) else none
  | .binOp op t x y _ => val h (vbinOp cfg op t x y (ρ x) (ρ y))
  | .unOp op _ x => val h (vunOp P op (ρ x))
  | .convert s d x => valh (vconvert cfg h s d (ρ x))
  | .makeInterface t x => val h (vmakeInterface cfg t (ρ x))
  | .makeFunc fn a c => some (.value (.fn fn (a.toList.map ρ) (c.toList.map ρ)) h)
  | .makeMap _ none => valh (some (vmakeMap h))
  | .makeSlice t l c => valh (vmakeSlice cfg h t (ρ l) (ρ c))
  | .slice t x lo hi mx => val h (vslice cfg h t (ρ x) (lo.map ρ) (hi.map ρ) (mx.map ρ))
  | .fieldAddr t x f => val h (vfieldAddr cfg t f (ρ x))
  | .field t x f => val h (vfield cfg t (ρ x) f)
  | .indexAddr t x i => val h (vindexAddr cfg t (ρ x) (ρ i))
  | .index t x i => val h (vindex cfg t (ρ x) (ρ i))
  | .lookup t x i ok => val h (vlookup cfg h t (ρ x) (ρ i) ok)
  | .mapUpdate t m k x => unit (vmapUpdate cfg h t (ρ m) (ρ k) (ρ x))
  | .insert t m k x => unit (vmapUpdate cfg h t (ρ m) (ρ k) (ρ x))
  | .mapEntry t m k => valh (vmapEntry cfg h t (ρ m) (ρ k))
  | .entryStore _ m s x => unit (ventryStore h (ρ m) (ρ s) (ρ x))
  | .range t x => valh (vrange cfg h t (ρ x))
  | .next it false => valh (vnext h (ρ it))
  | .entry it => val h (ventry h (ρ it))
  | .typeAssert x _ a ok => val h (vtypeAssert cfg (ρ x) a ok)
  | .extract t i => val h (vextract (ρ t) i)
  | .call c => ccall cfg h ρ c
  | .defer c => (match c.callee with
    | .value f => (match (ρ f).fn? with
      | some (fn, first, cap) => some (.defer (.call fn cap (first ++ c.args.toList.map ρ)))
      | none => none)
    | _ => none)
  | .panic x => (match ρ x with | .ifc t v => some (.panic (.ifc t v)) | _ => none)
  | _ => none

theorem vnil_ok {E : Env} {ρ' : Operand → Value} {x : SV} {v : Value} {w : World} (o : Oper) {a : Operand} (ho : o.op = .nilCheck a) (hv : ρ' a = v) (hx : R E x v) (h : vnil x = true) :
    (execOp ρ' o).run P w = .ok (.value v) w := by
  subst hv
  generalize hv : ρ' a = v at hx
  cases hx with
  | sc v =>
    cases v with
    | pointer p => cases p <;> simp [vnil] at h; simp [execOp, ho, hv]
    | func fn f c => cases fn <;> simp [vnil] at h; simp [execOp, ho, hv]
    | iface t u => simp [execOp, ho, hv]
    | _ => simp [vnil] at h
  | fn hl hc => rename_i fn _ _ _ _; cases fn <;> simp [vnil] at h; simp [execOp, ho, hv]
  | ptr hn => simp [execOp, ho, hv]
  | sl => simp [execOp, ho, hv]
  | ifc => simp [execOp, ho, hv]
  | _ => simp [vnil] at h

theorem RP.map {E : Env} {ρ : Operand → SV} {ρ' : Operand → Value} (hρ : ∀ x, R E (ρ x) (ρ' x)) : ∀ l : List (Nat × Operand), RP E (l.map fun p => (p.1, ρ p.2)) (l.map fun p => (p.1, ρ' p.2))
  | [] => .nil
  | p :: l => .cons (hρ p.2) (RP.map hρ l)

theorem RO.map {E : Env} {ρ : Operand → SV} {ρ' : Operand → Value} (hρ : ∀ x, R E (ρ x) (ρ' x)) : ∀ o : Option Operand, RO E (o.map ρ) (o.map ρ')
  | Option.none => RO.none
  | Option.some x => RO.some (hρ x)

theorem cop_ok (cfg : Cfg P) {E : Env} {own : Own} {h : CHeap X} {w : World} (e : Emb E own h w) {ρ : Operand → SV} {ρ' : Operand → Value} (hρ : ∀ x, R E (ρ x) (ρ' x)) {o : Oper} {r : CNext X}
    (hy : cop cfg h ρ o = some r) : OpOK P E own h w (execOp ρ' o) r := by
  have hmap : ∀ (ps : Array (Nat × Operand)), RP E (ps.toList.map fun p => (p.1, ρ p.2)) (ps.map fun (i, x) => (i, ρ' x)).toList := fun ps => by
    rw [Array.toList_map]; exact RP.map hρ _
  cases hop : o.op <;> simp only [cop, hop] at hy <;> simp only [execOp, hop] <;> try (cases hy; done)
  case move x => cases hy; exact ⟨_, E, own, w, rfl, e, Tran.refl _ _ _ _, hρ x⟩
  case assign x => cases hy; exact ⟨_, E, own, w, rfl, e, Tran.refl _ _ _ _, hρ x⟩
  case pick c a b =>
    split at hy
    · rename_i q hq
      cases hy
      have hb := svBool_ok hq (hρ c)
      refine ⟨if q then ρ' a else ρ' b, E, own, w, ?_, e, Tran.refl _ _ _ _, ?_⟩
      · simp [hb, asBool]
      · cases q
        · exact hρ b
        · exact hρ a
    · cases hy
  case alloc t =>
    split at hy
    · rename_i i hi
      cases hy
      obtain ⟨u, E', own', w', h1, h2, h3, h4⟩ := vbox_ok (P := P) e t (.sc i.zero)
      exact opOK_val ⟨.pointer (some u), E', own', w', by simp [Instr.alloc, cfg.run_zero hi, h1], h2, h3, h4⟩
    · cases hy
  case box t x =>
    cases hy
    obtain ⟨u, E', own', w', h1, h2, h3, h4⟩ := vbox_ok (P := P) e t (hρ x)
    exact opOK_val ⟨.pointer (some u), E', own', w', by simp [Instr.box, h1], h2, h3, h4⟩
  case build t parts =>
    obtain ⟨v, h1, rfl⟩ := val_some hy
    exact opOK_pure e (vbuild_ok cfg (hmap parts) h1)
  case buildSlice t len parts =>
    obtain ⟨v, h', h1, rfl⟩ := valh_some hy
    exact opOK_val (vbuildSlice_ok cfg e (hmap parts) h1)
  case insert t m k x =>
    obtain ⟨h', h1, rfl⟩ := unit_some hy
    exact opOK_unit (vmapUpdate_ok cfg e (hρ m) (hρ k) (hρ x) h1)
  case load t a =>
    obtain ⟨v, h1, rfl⟩ := val_some hy
    exact opOK_pure e (vload_ok cfg e (hρ a) h1)
  case store t a x =>
    obtain ⟨h', h1, rfl⟩ := unit_some hy
    exact opOK_unit (vstore_ok cfg e (hρ a) (hρ x) h1)
  case nilCheck x =>
    split at hy
    · rename_i hn
      cases hy
      have := vnil_ok (P := P) (w := w) o hop rfl (hρ x) hn
      simp only [execOp, hop] at this
      exact ⟨_, E, own, w, this, e, Tran.refl _ _ _ _, hρ x⟩
    · cases hy
  case binOp op t x y yt =>
    obtain ⟨v, h1, rfl⟩ := val_some hy
    exact opOK_pure e (vbinOp_ok cfg (hρ x) (hρ y) h1)
  case unOp op t x =>
    obtain ⟨v, h1, rfl⟩ := val_some hy
    exact opOK_pure e (vunOp_ok (hρ x) h1)
  case convert s d x =>
    obtain ⟨v, h', h1, rfl⟩ := valh_some hy
    exact opOK_val (vconvert_ok cfg e (hρ x) h1)
  case makeInterface t x =>
    obtain ⟨v, h1, rfl⟩ := val_some hy
    exact opOK_pure e (vmakeInterface_ok cfg (hρ x) h1)
  case makeFunc fn a c =>
    cases hy
    refine ⟨.func fn (a.toList.map ρ').toArray (c.toList.map ρ').toArray, E, own, w, ?_, e, Tran.refl _ _ _ _, .fn (RL.map hρ _) (RL.map hρ _)⟩
    simp [Instr.makeFunc]
    exact ⟨map_arr a, map_arr c⟩
  case makeMap t r =>
    cases r with
    | some r => cases hy
    | none =>
      cases hy
      obtain ⟨u, E', own', w', h1, h2, h3, h4⟩ := vmakeMap_ok (P := P) e t
      exact opOK_val ⟨u, E', own', w', h1, h2, h3, h4⟩
  case makeSlice t l c =>
    obtain ⟨v, h', h1, rfl⟩ := valh_some hy
    exact opOK_val (vmakeSlice_ok cfg e (hρ l) (hρ c) h1)
  case slice t x lo hi mx =>
    obtain ⟨v, h1, rfl⟩ := val_some hy
    exact opOK_pure e (vslice_ok cfg e (hρ x) (RO.map hρ lo) (RO.map hρ hi) (RO.map hρ mx) h1)
  case fieldAddr t x f =>
    obtain ⟨v, h1, rfl⟩ := val_some hy
    exact opOK_pure e (vfieldAddr_ok cfg (hρ x) h1)
  case field t x f =>
    obtain ⟨v, h1, rfl⟩ := val_some hy
    exact opOK_pure e (vfield_ok cfg (hρ x) h1)
  case indexAddr t x i =>
    obtain ⟨v, h1, rfl⟩ := val_some hy
    exact opOK_pure e (vindexAddr_ok cfg (hρ x) (hρ i) h1)
  case index t x i =>
    obtain ⟨v, h1, rfl⟩ := val_some hy
    exact opOK_pure e (vindex_ok cfg (hρ x) (hρ i) h1)
  case lookup t x i ok =>
    obtain ⟨v, h1, rfl⟩ := val_some hy
    exact opOK_pure e (vlookup_ok cfg e (hρ x) (hρ i) h1)
  case mapUpdate t m k x =>
    obtain ⟨h', h1, rfl⟩ := unit_some hy
    exact opOK_unit (vmapUpdate_ok cfg e (hρ m) (hρ k) (hρ x) h1)
  case mapEntry t m k =>
    obtain ⟨v, h', h1, rfl⟩ := valh_some hy
    obtain ⟨r, w', q1, q2, q3, q4⟩ := vmapEntry_ok cfg e (hρ m) (hρ k) h1
    exact opOK_val ⟨r, E, own, w', q1, q2, q3, q4⟩
  case entryStore t m s x =>
    obtain ⟨h', h1, rfl⟩ := unit_some hy
    exact opOK_unit (ventryStore_ok e t (hρ m) (hρ s) (hρ x) h1)
  case range t x =>
    obtain ⟨v, h', h1, rfl⟩ := valh_some hy
    exact opOK_val (vrange_ok cfg e (hρ x) h1)
  case next it str =>
    cases str with
    | true => cases hy
    | false =>
      obtain ⟨v, h', h1, rfl⟩ := valh_some hy
      obtain ⟨r, w', q1, q2, q3, q4⟩ := vnext_ok (P := P) e o.type (hρ it) h1
      exact opOK_val ⟨r, E, own, w', q1, q2, q3, q4⟩
  case entry it =>
    obtain ⟨v, h1, rfl⟩ := val_some hy
    exact opOK_pure e (ventry_ok e (hρ it) h1)
  case typeAssert x xt a ok =>
    obtain ⟨v, h1, rfl⟩ := val_some hy
    exact opOK_pure e (vtypeAssert_ok cfg (hρ x) h1)
  case extract t i =>
    obtain ⟨v, h1, rfl⟩ := val_some hy
    exact opOK_pure e (vextract_ok (hρ t) h1)
  case call c => exact ccall_ok cfg e hρ c o.type hy
  case defer c =>
    split at hy
    · rename_i f hf
      split at hy
      · rename_i fn first cap hfn
        cases hy
        obtain ⟨a', c', hv, h1, h2⟩ := SV.fn_eq hfn (hρ f)
        refine ⟨{ target := .fn fn c'.toArray, args := (a' ++ c.args.toList.map ρ').toArray }, ?_, .call h2 (h1.append (RL.map hρ _))⟩
        have harr : a'.toArray ++ c.args.map ρ' = (a' ++ c.args.toList.map ρ').toArray := by apply Array.ext'; simp
        simp only [resolve, hf, hv, Deferred.ofValue, pure_bind, harr]
        simp
      · cases hy
    · cases hy
  case panic x =>
    split at hy
    · rename_i t v hx
      cases hy
      have hr := hρ x
      rw [hx] at hr
      generalize hv : ρ' x = u at hr
      cases hr with
      | @ifc _ _ u' hr' =>
        exact ⟨.iface t u', by simp [Instr.panic], .ifc hr'⟩
    · cases hy
end Cam
