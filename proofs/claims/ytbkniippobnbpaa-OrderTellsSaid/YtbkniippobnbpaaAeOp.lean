/-
  Each operation of the evaluator is the machine's.
-/
import Derived.Test.YtbkniippobnbpaaAeOps7
namespace Go.Ae
set_option linter.unusedSimpArgs false

section
variable {P : Program} {E : Env} {s : St} {w : World}

def DoOk (P : Program) (E : Env) (s : St) (w : World) (r : Result Next) : Do → Prop
  | .val v s' => ∃ u w' E', (r = .ok (.value u) w' ∨ (r = .ok .skip w' ∧ u = undef)) ∧ Goes P E s w E' s' w' ∧ VRel E' v u
  | .enter f args s' => s' = s ∧ ∃ vs, r = .ok (.enter f vs) w ∧ VRels E args vs.toList

theorem DoOk.of_S {m : Sem Value} {v : CV} {s' : St} (h : SOk P E s w m v s') : DoOk P E s w ((do Pure.pure (.value (← m)) : Sem Next).run P w) (.val v s') := by
  obtain ⟨u, w', E', h1, h2, h3⟩ := h
  exact ⟨u, w', E', .inl (by simp [h1]), h2, h3⟩

theorem DoOk.of_pure (hw : WRel P E s w) {m : Sem Value} {v : CV} (h : ∃ u, m.run P w = .ok u w ∧ VRel E v u) : DoOk P E s w ((do Pure.pure (.value (← m)) : Sem Next).run P w) (.val v s) :=
  DoOk.of_S (SOk.pure hw h)

theorem DoOk.of_val (hw : WRel P E s w) {u : Value} {v : CV} (h : VRel E v u) : DoOk P E s w ((Pure.pure (.value u) : Sem Next).run P w) (.val v s) :=
  ⟨u, w, E, .inl rfl, Goes.refl hw, h⟩

theorem DoOk.of_U {m : Sem Unit} {s' : St} (h : UOk P E s w m s') : DoOk P E s w ((do m; Pure.pure .skip : Sem Next).run P w) (.val (.tuple []) s') := by
  obtain ⟨w', E', h1, h2⟩ := h
  refine ⟨undef, w', E', .inr ⟨by simp [h1], rfl⟩, h2, ?_⟩
  simp only [VRel, undef]
  exact ⟨#[], rfl, VRels.nil⟩

theorem ret1_eq {x : Option CV} {d : Do} (h : ret1 s x = some d) : ∃ v, x = some v ∧ d = .val v s := by
  unfold ret1 at h
  split at h
  · simp only [Option.some.injEq] at h; exact ⟨_, rfl, h.symm⟩
  · cases h

theorem ret2_eq {x : Option (CV × St)} {d : Do} (h : ret2 x = some d) : ∃ v s', x = some (v, s') ∧ d = .val v s' := by
  unfold ret2 at h
  split at h
  · simp only [Option.some.injEq] at h; exact ⟨_, _, rfl, h.symm⟩
  · cases h

theorem retU_eq {x : Option St} {d : Do} (h : retU x = some d) : ∃ s', x = some s' ∧ d = .val (.tuple []) s' := by
  unfold retU at h
  split at h
  · simp only [Option.some.injEq] at h; exact ⟨_, rfl, h.symm⟩
  · cases h

theorem pairs_ok {ρ : Operand → Option CV} {g : Operand → Value} (hr : ∀ x c, ρ x = some c → VRel E c (g x)) : ∀ (l : List (Nat × Operand)) (r : List (Nat × CV)), pairs ρ l = some r →
    (l.map fun p => (p.1, g p.2)).map (·.1) = r.map (·.1) ∧ VRels E (r.map (·.2)) ((l.map fun p => (p.1, g p.2)).map (·.2))
  | [], r, h => by simp only [pairs, Option.some.injEq] at h; subst h; exact ⟨rfl, VRels.nil⟩
  | (i, x) :: l, r, h => by
    simp only [pairs] at h
    split at h
    · cases h
    · rename_i v hv
      split at h
      · cases h
      · rename_i r' hr'
        simp only [Option.some.injEq] at h
        subst h
        obtain ⟨h1, h2⟩ := pairs_ok hr l r' hr'
        exact ⟨by simp only [List.map_cons]; rw [h1], VRels.cons (hr x v hv) h2⟩

theorem callF_ok {f : FuncId} {args : List CV} {vs : Array Value} {d : Do} (ha : VRels E args vs.toList) (h : callF P f args s = some d) : DoOk P E s w ((callFunc f vs).run P w) d := by
  unfold callF at h
  split at h
  · cases h
  · rename_i fn hf
    split at h
    · cases h
    · rename_i hn
      simp only [decide_eq_false_iff_not] at hn
      split at h
      · rename_i c hc
        simp only [Option.some.injEq] at h
        subst h
        refine ⟨rfl, vs, ?_, ha⟩
        have hn2 : (fn.name == "runtime.NumGoroutine") = false := by rw [beq_eq_false_iff_ne]; exact hn
        simp only [callFunc, Sem.run_bind, run_program, Result.andThen_ok, hf, hn2, Bool.false_eq_true, if_false, hc, Option.isNone_some, Sem.run_pure]
      · cases h

theorem methodV_ok {t : TypeId} {v rv : CV} {vv : Value} {name : String} {f : FuncId} (hv : VRel E v vv) (h : methodV P t v name = some (f, rv)) (n : Nat) :
    ∃ u, (method (n + 1) t vv name).run P w = .ok (f, u) w ∧ VRel E rv u := by
  unfold methodV at h
  split at h
  · cases h
  · rename_i i hi
    split at h
    · cases h
    · rename_i m hm
      split at h
      · rename_i g hpe hf
        have hpl : m.path.toList = [] := by simpa using hpe
        split at h
        · rename_i e hu
          simp only [Option.some.injEq, Prod.mk.injEq] at h
          obtain ⟨rfl, rfl⟩ := h
          refine ⟨vv, ?_, hv⟩
          simp only [method, Sem.run_bind, run_typeInfo_ok hi, Result.andThen_ok, hm, hpl, follow, Sem.run_pure, hf, receiverAt, run_underlying_ok hu, Place.get]
        · cases h
      · rename_i g hpe hf
        have hpl : m.path.toList = [] := by simpa using hpe
        split at h
        · cases h
        · cases h
        · rename_i d hno hno2
          simp only [Option.some.injEq, Prod.mk.injEq] at h
          obtain ⟨rfl, rfl⟩ := h
          refine ⟨vv, ?_, hv⟩
          cases hu : P.underlying t with
          | none => exact absurd hu hno2
          | some d =>
            have hd : ∀ e, d ≠ .pointer e := fun e h => hno e (by rw [hu, h])
            simp only [method, Sem.run_bind, run_typeInfo_ok hi, Result.andThen_ok, hm, hpl, follow, Sem.run_pure, hf, receiverAt, run_underlying_ok hu, Place.get]
            first
              | done
              | (cases d <;> first
                  | rfl
                  | exact absurd rfl (hd _))
      · cases h

theorem head_rel {ρ : Operand → Option CV} {g : Operand → Value} (hr : ∀ x c, ρ x = some c → VRel E c (g x)) {lo : Option Operand} {l : List CV} (h : mapO ρ lo.toList = some l) : ORelO E l.head? (lo.map g) := by
  cases lo with
  | none => simp only [Option.toList, mapO, Option.some.injEq] at h; subst h; exact .inl ⟨rfl, rfl⟩
  | some x =>
    simp only [Option.toList, mapO] at h
    split at h
    · cases h
    · rename_i y hy
      simp only [Option.some.injEq] at h
      subst h
      exact .inr ⟨y, g x, rfl, rfl, hr x y hy⟩

theorem builtinV_ok (hw : WRel P E s w) {b : Builtin} {argTypes : Array TypeId} {type : TypeId} {consts : Array Bool} {args : List CV} {vs : Array Value} {d : Do} (ha : VRels E args vs.toList)
    (h : builtinV P s b argTypes args = some d) : DoOk P E s w ((builtin b argTypes type consts vs).run P w) d := by
  unfold builtinV at h
  split at h
  · obtain ⟨v, s', h1, rfl⟩ := ret2_eq h
    exact DoOk.of_S (appendV_ok hw ha h1)
  · obtain ⟨v, h1, rfl⟩ := ret1_eq h
    exact DoOk.of_pure hw (lenV_ok hw ha h1)
  · obtain ⟨v, h1, rfl⟩ := ret1_eq h
    exact DoOk.of_pure hw (capV_ok hw ha h1)
  · obtain ⟨v, s', h1, rfl⟩ := ret2_eq h
    exact DoOk.of_S (copyV_ok hw ha h1)
  · obtain ⟨v, h1, rfl⟩ := ret1_eq h
    refine DoOk.of_pure hw ?_
    split at h1
    · rename_i x l
      simp only [VRels] at ha
      obtain ⟨vx, r, hl, hx, hr⟩ := ha
      obtain ⟨u, h2, h3⟩ := foldO_ok (P := P) (w := w) (fun x y c vx vy a b h => max2_ok a b h) l r x v vx hx hr h1
      exact ⟨u, by simp only [Builtin.max_, hl]; exact h2, h3⟩
    · cases h1
  · obtain ⟨v, h1, rfl⟩ := ret1_eq h
    refine DoOk.of_pure hw ?_
    split at h1
    · rename_i x l
      simp only [VRels] at ha
      obtain ⟨vx, r, hl, hx, hr⟩ := ha
      obtain ⟨u, h2, h3⟩ := foldO_ok (P := P) (w := w) (fun x y c vx vy a b h => min2_ok a b h) l r x v vx hx hr h1
      exact ⟨u, by simp only [Builtin.min_, hl]; exact h2, h3⟩
    · cases h1
  · cases h

theorem convV_ok (hw : WRel P E s w) {a b : TypeId} {x v : CV} {vx : Value} {s' : St} (hx : VRel E x vx) (h : convV P s a b x = some (v, s')) : SOk P E s w (convert a b vx) v s' := by
  unfold convV at h
  split at h
  · rename_i k k' n kk hu hu'
    simp only [okI_eq, Option.map_some, Option.some.injEq, Prod.mk.injEq] at h
    obtain ⟨rfl, rfl⟩ := h
    simp only [VRel] at hx; subst hx
    refine ⟨.int k' (k'.wrap kk), w, E, ?_, Goes.refl hw, by simp only [VRel]⟩
    simp only [convert, Sem.run_bind, run_underlying_ok hu, run_underlying_ok hu', Result.andThen_ok]
    rfl
  · rename_i l hu hu'
    simp only [Option.some.injEq, Prod.mk.injEq] at h
    obtain ⟨rfl, rfl⟩ := h
    have hx0 := hx
    simp only [VRel] at hx
    obtain ⟨q, rfl, _⟩ := hx
    refine ⟨_, w, E, ?_, Goes.refl hw, hx0⟩
    simp only [convert, Sem.run_bind, run_underlying_ok hu, run_underlying_ok hu', Result.andThen_ok]
    rfl
  · cases h

theorem oCall_ok (hw : WRel P E s w) {ρ : Operand → Option CV} {g : Operand → Value} (hr : ∀ x c, ρ x = some c → VRel E c (g x)) {c : Call} {type : TypeId} {d : Do} (h : oCall P s ρ c = some d) :
    DoOk P E s w ((do let d ← resolve g c type; invoke d.target d.args : Sem Next).run P w) d := by
  unfold oCall at h
  split at h
  · cases h
  · rename_i args hargs
    have ha : VRels E args (c.args.map g).toList := by rw [Array.toList_map]; exact mapO_ok hr _ _ hargs
    split at h
    · rename_i b hb
      simp only [resolve, hb, Sem.run_bind, Sem.run_pure, Result.andThen_ok, invoke]
      exact builtinV_ok hw ha h
    · rename_i f hf
      unfold oCallV at h
      split at h
      · rename_i f' first cap hfv
        have hv := hr _ _ hfv
        simp only [VRel] at hv
        obtain ⟨x, y, hg, hx, hy⟩ := hv
        simp only [resolve, hf, hg, Deferred.ofValue, Sem.run_bind, Sem.run_pure, Result.andThen_ok, invoke]
        refine callF_ok ?_ h
        simp only [Array.toList_append]
        exact (hx.append ha).append hy
      · cases h
    · rename_i r name hr'
      unfold oInvoke at h
      split at h
      · rename_i t v hrv
        have hv := hr _ _ hrv
        simp only [VRel] at hv
        obtain ⟨u, hg, hu⟩ := hv
        split at h
        · rename_i f rv hm
          have hn : P.types.size + Made.depth = (P.types.size + 99) + 1 := rfl
          obtain ⟨u', hm1, hm2⟩ := methodV_ok (w := w) hu hm (P.types.size + 99)
          have hx0 : (#[Value.iface t u] ++ c.args.map g)[0]? = some (Value.iface t u) := by
            rw [Array.getElem?_append_left (by simp)]; rfl
          have hx1 : (#[Value.iface t u] ++ c.args.map g).extract 1 (#[Value.iface t u] ++ c.args.map g).size = c.args.map g := by
            apply Array.ext'
            simp [List.take_of_length_le]
          simp only [resolve, hr', Sem.run_bind, Sem.run_pure, Result.andThen_ok, invoke, hg]
          rw [hx0]
          simp only [callMethod, hx1, Sem.run_bind, run_program, Result.andThen_ok, hn, hm1]
          refine callF_ok ?_ h
          simp only [Array.toList_append]
          exact VRels.cons hm2 ha
        · cases h
      · cases h

theorem opV_ok (hw : WRel P E s w) {τ : Fr} {a : Act} (ht : TRel E τ a.tmps) {o : Oper} {d : Do} (h : opV P s τ o.op = some d) : DoOk P E s w ((execOp a.eval o).run P w) d := by
  have hr : ∀ x c, opd P τ x = some c → VRel E c (a.eval x) := fun x c hc => opd_ok hw ht hc
  unfold opV at h
  split at h <;> rename_i heq <;> simp only [execOp, heq]
  · obtain ⟨v, h1, rfl⟩ := ret1_eq h
    exact DoOk.of_val hw (hr _ _ h1)
  · obtain ⟨v, h1, rfl⟩ := ret1_eq h
    exact DoOk.of_val hw (hr _ _ h1)
  · unfold oPick at h
    split at h
    · rename_i hc
      have hcv := hr _ _ hc
      simp only [VRel] at hcv
      obtain ⟨v, h1, rfl⟩ := ret1_eq h
      exact ⟨_, w, E, .inl (by simp only [hcv, asBool, Sem.run_bind, Sem.run_pure, Result.andThen_ok]; rfl), Goes.refl hw, hr _ _ h1⟩
    · rename_i hc
      have hcv := hr _ _ hc
      simp only [VRel] at hcv
      obtain ⟨v, h1, rfl⟩ := ret1_eq h
      exact ⟨_, w, E, .inl (by simp only [hcv, asBool, Sem.run_bind, Sem.run_pure, Result.andThen_ok]; rfl), Goes.refl hw, hr _ _ h1⟩
    · cases h
  · unfold oAlloc at h
    split at h
    · rename_i z hz
      obtain ⟨vz, ie, hie, hz1, hz2, hz3⟩ := zeroOf_val hz
      obtain ⟨w', E', i, h1, h2, h3⟩ := newVar_ok (t := _) hw (hz2 E)
      simp only [Option.some.injEq] at h
      subst h
      refine DoOk.of_S ⟨.pointer (some ⟨i.blk, 0 + i.d, none⟩), w', E', ?_, h2, ?_⟩
      · simp only [Instr.alloc, Sem.run_bind, hz3, Result.andThen_ok, h1, Sem.run_pure]
      · simp only [VRel]; exact ⟨i, h3, rfl⟩
    · cases h
  · unfold oBox at h
    split at h
    · rename_i z hz
      obtain ⟨w', E', i, h1, h2, h3⟩ := newVar_ok (t := _) hw (hr _ _ hz)
      simp only [Option.some.injEq] at h
      subst h
      refine DoOk.of_S ⟨.pointer (some ⟨i.blk, 0 + i.d, none⟩), w', E', ?_, h2, ?_⟩
      · simp only [Instr.box, Sem.run_bind, h1, Result.andThen_ok, Sem.run_pure]
      · simp only [VRel]; exact ⟨i, h3, rfl⟩
    · cases h
  · unfold oBuild at h
    split at h
    · rename_i ps hps
      obtain ⟨v, h1, rfl⟩ := ret1_eq h
      obtain ⟨p1, p2⟩ := pairs_ok hr _ _ hps
      exact DoOk.of_pure hw (buildV_ok (by simpa using p1) (by simpa using p2) h1)
    · cases h
  · unfold oBuildSlice at h
    split at h
    · rename_i ps hps
      obtain ⟨v, s', h1, rfl⟩ := ret2_eq h
      obtain ⟨p1, p2⟩ := pairs_ok hr _ _ hps
      exact DoOk.of_S (buildSliceV_ok hw (by simpa using p1) (by simpa using p2) h1)
    · cases h
  · unfold oLoad at h
    split at h
    · rename_i b o' hb
      have hv := hr _ _ hb
      simp only [VRel] at hv
      obtain ⟨i, hi, hv⟩ := hv
      obtain ⟨v, h1, rfl⟩ := ret1_eq h
      refine DoOk.of_pure hw ?_
      obtain ⟨u, h2, h3⟩ := loadVar_ok hw hi h1
      exact ⟨u, by simp only [Instr.loadAt, hv, Instr.sureAddr, Sem.run_bind, Sem.run_pure, Result.andThen_ok, h2], h3⟩
    · cases h
  · unfold oStore at h
    split at h
    · rename_i b o' v hb hvv
      have hv := hr _ _ hb
      simp only [VRel] at hv
      obtain ⟨i, hi, hv⟩ := hv
      obtain ⟨s', h1, rfl⟩ := retU_eq h
      refine DoOk.of_U ?_
      obtain ⟨w', h2, h3⟩ := storeVar_ok hw hi h1 (hr _ _ hvv)
      exact ⟨w', E, by simp only [Instr.storeAt, hv, Instr.sureAddr, Sem.run_bind, Sem.run_pure, Result.andThen_ok, h2], h3⟩
    · cases h
  · unfold oNil at h
    split at h
    · cases h
    · cases h
    · cases h
    · cases h
    · rename_i v hn1 hn2 hn3 hn4 hv
      simp only [Option.some.injEq] at h
      subst h
      have hrv := hr _ _ hv
      refine ⟨_, w, E, .inl ?_, Goes.refl hw, hrv⟩
      cases v with
      | func fn x y =>
        simp only [VRel] at hrv
        obtain ⟨_, _, hrv, _⟩ := hrv
        cases fn with
        | method nm => exact absurd rfl (hn4 nm x y)
        | _ => rw [hrv]; rfl
      | nilptr => exact absurd rfl hn1
      | nilIface => exact absurd rfl hn2
      | nilFunc => exact absurd rfl hn3
      | _ =>
        simp only [VRel] at hrv
        first
          | (rw [hrv]; rfl; done)
          | (obtain ⟨_, hrv, _⟩ := hrv; rw [hrv]; rfl; done)
          | (obtain ⟨_, _, hrv⟩ := hrv; rw [hrv]; rfl; done)
          | (obtain ⟨_, _, ⟨_, hrv, _⟩ | ⟨_, hrv, _⟩⟩ := hrv <;> (rw [hrv]; rfl); done)
    · cases h
  · unfold oBin at h
    split at h
    · rename_i x y hx hy
      obtain ⟨v, h1, rfl⟩ := ret1_eq h
      exact DoOk.of_pure hw (binV_ok hw (hr _ _ hx) (hr _ _ hy) h1)
    · cases h
  · unfold oUn at h
    split at h
    · rename_i x hx
      obtain ⟨v, h1, rfl⟩ := ret1_eq h
      exact DoOk.of_pure hw (unV_ok (hr _ _ hx) h1)
    · cases h
  · unfold oConv at h
    split at h
    · rename_i x hx
      obtain ⟨v, s', h1, rfl⟩ := ret2_eq h
      exact DoOk.of_S (convV_ok hw (hr _ _ hx) h1)
    · cases h
  · unfold oIface at h
    split at h
    · cases h
    · rename_i dd v hno hu hv
      simp only [Option.some.injEq] at h
      subst h
      refine DoOk.of_pure hw ⟨.iface _ (a.eval _), ?_, by simp only [VRel]; exact ⟨_, rfl, hr _ _ hv⟩⟩
      have hd : ∀ ms, dd ≠ .interface ms := fun ms e => by
        first
          | exact hno ms e
          | exact hno ms (by rw [hu, e])
      simp only [Instr.makeInterface, Sem.run_bind, run_underlying_ok hu, Result.andThen_ok]
      cases dd <;> first
        | rfl
        | exact absurd rfl (hd _)
    · cases h
  · unfold oFunc at h
    split at h
    · rename_i x y hx hy
      simp only [Option.some.injEq] at h
      subst h
      refine DoOk.of_pure hw ⟨_, by simp only [Instr.makeFunc, Sem.run_pure]; rfl, ?_⟩
      simp only [VRel]
      exact ⟨_, _, rfl, by rw [Array.toList_map]; exact mapO_ok hr _ _ hx, by rw [Array.toList_map]; exact mapO_ok hr _ _ hy⟩
    · cases h
  · unfold oMakeSlice at h
    split at h
    · rename_i l c hl hc
      obtain ⟨v, s', h1, rfl⟩ := ret2_eq h
      exact DoOk.of_S (makeSlice_ok hw (hr _ _ hl) (hr _ _ hc) h1)
    · cases h
  · unfold oSlice at h
    split at h
    · rename_i v l hh m hv hl hhh hm
      obtain ⟨c, h1, rfl⟩ := ret1_eq h
      exact DoOk.of_pure hw (sliceV_ok hw (hr _ _ hv) (head_rel hr hl) (head_rel hr hhh) (head_rel hr hm) h1)
    · cases h
  · unfold oFieldAddr at h
    split at h
    · rename_i b o' f hb hf
      split at h
      · rename_i z hz
        simp only [fnat_eq, Option.some.injEq] at h
        subst h
        have hv := hr _ _ hb
        simp only [VRel] at hv
        obtain ⟨i, hi, hv⟩ := hv
        obtain ⟨fs, hu, hfs⟩ := fieldOf_ok hf
        refine DoOk.of_pure hw ⟨.pointer (some (Addr.add ⟨i.blk, o' + i.d, none⟩ f.offset)), ?_, ?_⟩
        · simp only [Instr.fieldAt, Sem.run_bind, run_underlying_ok hu, Result.andThen_ok, hfs, hv, Instr.sureAddr, Sem.run_pure, fieldPlace, run_sizeOf_ok hz]
          simp
        · simp only [VRel, Addr.add_plain]
          exact ⟨i, hi, by congr 3; omega⟩
      · cases h
    · cases h
  · unfold oField at h
    split at h
    · rename_i cs f hb hf
      have hv := hr _ _ hb
      simp only [VRel] at hv
      obtain ⟨vs, hv, hvs⟩ := hv
      obtain ⟨fs, hu, hfs⟩ := fieldOf_ok hf
      obtain ⟨v, h1, rfl⟩ := ret1_eq h
      obtain ⟨u, h2, h3⟩ := part_ok (w := w) hvs h1
      exact DoOk.of_pure hw ⟨u, by simp only [Instr.field, Sem.run_bind, run_underlying_ok hu, Result.andThen_ok, hfs, hv, asAgg, Sem.run_pure, h2], h3⟩
    · cases h
  · unfold oIndexAddr at h
    split at h
    · rename_i x i hx hi
      obtain ⟨v, h1, rfl⟩ := ret1_eq h
      exact DoOk.of_pure hw (indexAt_ok (hr _ _ hx) (hr _ _ hi) h1)
    · cases h
  · unfold oIndex at h
    split at h
    · rename_i x i hx hi
      obtain ⟨v, h1, rfl⟩ := ret1_eq h
      exact DoOk.of_pure hw (indexV_ok (hr _ _ hx) (hr _ _ hi) h1)
    · cases h
  · unfold oAssert at h
    split at h
    · rename_i x hx
      obtain ⟨v, h1, rfl⟩ := ret1_eq h
      exact DoOk.of_pure hw (assertV_ok (hr _ _ hx) h1)
    · cases h
  · unfold oExtract at h
    split at h
    · rename_i l hl
      have hv := hr _ _ hl
      simp only [VRel] at hv
      obtain ⟨vs, hv, hvs⟩ := hv
      obtain ⟨v, h1, rfl⟩ := ret1_eq h
      obtain ⟨u, h2, h3⟩ := hvs.get _ v h1
      simp only [Array.getElem?_toList] at h2
      exact DoOk.of_pure hw ⟨u, by simp only [Instr.extract, hv, h2, Sem.run_pure], h3⟩
    · cases h
  · exact oCall_ok hw hr h
  · cases h

end
end Go.Ae
