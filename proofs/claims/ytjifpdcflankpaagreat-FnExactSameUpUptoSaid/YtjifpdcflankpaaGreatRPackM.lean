/-
 THE GROUND OF DATA, in one text. Conditions: none.
-/
import Derived.Test.YtjifpdcflankpaaGreatRPackO
import Derived.Test.YtjifpdcflankpaaGreatRPackG
import Derived.Test.YtjifpdcflankpaaGreatRIrA

set_option linter.unusedVariables false
set_option linter.unusedSimpArgs false
set_option maxRecDepth 100000

namespace Go.Proofs.YtjifpdcflankpaaGreat
open Go.RowKit Go.Proofs.YtjifpdcflankpaaGreat.Av Go.Proofs.YtjifpdcflankpaaGreat.Ml
open Go.Proofs.YtjifpdcflankpaaGreat.Av.AVal (av)
open OVal (ov oh on)
open Mk (mkv cnt)

instance : OVal PNode where
 ty := 94
 ov nm vs x := .agg [.int .i64 x.kind, .int .i64 x.n, .str x.s, ov (sub nm 0) vs x.kids]
 oh nm vs x := oh (sub nm 0) vs x.kids
 on nm x := on (sub nm 0) x.kids
 names nm vs x := OVal.names _ _ _
 inn nm x k h := (OVal.inn _ _ _ h).up
 self nm vs x := OVal.self _ _ _
 vdep nm vs vs' x h := by
  obtain ⟨a0, b0⟩ := OVal.vdep (sub nm 0) vs vs' x.kids (fun k hk => h k hk.up)
  simp only [a0, b0, and_self]
 lend nm vs x hp h := by
  have h0 := OVal.lend (sub nm 0) vs x.kids hp h
  show AV.agg [.int .i64 x.kind, .int .i64 x.n, .str x.s, (ov (sub nm 0) vs x.kids).pur (frzL (on (sub nm 0) x.kids) hp)] = av x
  rw [h0]; rfl
 dep nm vs x hp hp' h := by
  have h0 := OVal.dep (sub nm 0) vs x.kids hp hp' (fun k hk => h k hk.up)
  show AV.agg [.int .i64 x.kind, .int .i64 x.n, .str x.s, (ov (sub nm 0) vs x.kids).pur hp] = AV.agg [.int .i64 x.kind, .int .i64 x.n, .str x.s, (ov (sub nm 0) vs x.kids).pur hp']
  rw [h0]
 free nm vs x p h := by exact OVal.free _ _ _ p h
 cfree nm vs x y hx := by
  simp only [AV.cells, List.mem_cons, List.not_mem_nil, or_false] at hx
  rcases hx with rfl | rfl | rfl | rfl <;> rfl
 ok _ _ _ := rfl
 agg _ _ _ := rfl
 len _ _ _ := rfl
theorem ov_PNode (nm : Nat) (vs : Nat → Nat) (x : PNode) : ov nm vs x = .agg [.int .i64 x.kind, .int .i64 x.n, .str x.s, .row (sub nm 0) (vs (sub nm 0)) x.kids.length] := eqq rfl
theorem oh_PNode (nm : Nat) (vs : Nat → Nat) (x : PNode) : oh nm vs x = oh (sub nm 0) vs x.kids := rfl

instance : Mk PNode := ⟨fun k x => ⟨k, k + 1, markS (k + 1 + 1), mkL (k + 1 + 1 + 1) x.kids⟩, fun x => 3 + cntL x.kids⟩
theorem cnt_PNode (x : PNode) : cnt x = 3 + cntL x.kids := rfl
instance : MkB PNode := ⟨fun x => by
 have hbx : Bulk.bulk x = Bulk.bulk x.kind + Bulk.bulk x.n + Bulk.bulk x.s + Bulk.bulk x.kids + 1 := rfl
 have hbx_0 : Bulk.bulk x.kind = 1 := rfl
 have hbx_1 : Bulk.bulk x.n = 1 := rfl
 have hbx_2 : Bulk.bulk x.s = x.s.size + 1 := rfl
 have hbx_3 := cntL_bulk x.kids
 rw [cnt_PNode]
 omega⟩

instance : OVal Pat where
 ty := 89
 ov nm vs x := .agg [ov (sub nm 0) vs x.nodes]
 oh nm vs x := oh (sub nm 0) vs x.nodes
 on nm x := on (sub nm 0) x.nodes
 names nm vs x := OVal.names _ _ _
 inn nm x k h := (OVal.inn _ _ _ h).up
 self nm vs x := OVal.self _ _ _
 vdep nm vs vs' x h := by
  obtain ⟨a0, b0⟩ := OVal.vdep (sub nm 0) vs vs' x.nodes (fun k hk => h k hk.up)
  simp only [a0, b0, and_self]
 lend nm vs x hp h := by
  have h0 := OVal.lend (sub nm 0) vs x.nodes hp h
  show AV.agg [(ov (sub nm 0) vs x.nodes).pur (frzL (on (sub nm 0) x.nodes) hp)] = av x
  rw [h0]; rfl
 dep nm vs x hp hp' h := by
  have h0 := OVal.dep (sub nm 0) vs x.nodes hp hp' (fun k hk => h k hk.up)
  show AV.agg [(ov (sub nm 0) vs x.nodes).pur hp] = AV.agg [(ov (sub nm 0) vs x.nodes).pur hp']
  rw [h0]
 free nm vs x p h := by exact OVal.free _ _ _ p h
 cfree nm vs x y hx := by
  simp only [AV.cells, List.mem_cons, List.not_mem_nil, or_false] at hx
  subst hx <;> rfl
 ok _ _ _ := rfl
 agg _ _ _ := rfl
 len _ _ _ := rfl
theorem ov_Pat (nm : Nat) (vs : Nat → Nat) (x : Pat) : ov nm vs x = .agg [.row (sub nm 0) (vs (sub nm 0)) x.nodes.length] := eqq rfl
theorem oh_Pat (nm : Nat) (vs : Nat → Nat) (x : Pat) : oh nm vs x = oh (sub nm 0) vs x.nodes := rfl

instance : Mk Pat := ⟨fun k x => ⟨mkL (k) x.nodes⟩, fun x => cntL x.nodes⟩
theorem cnt_Pat (x : Pat) : cnt x = cntL x.nodes := rfl
instance : MkB Pat := ⟨fun x => by
 have hbx : Bulk.bulk x = Bulk.bulk x.nodes + 1 := rfl
 have hbx_0 := cntL_bulk x.nodes
 rw [cnt_Pat]
 omega⟩

end Go.Proofs.YtjifpdcflankpaaGreat

namespace Go.Proofs.YtjifpdcflankpaaGreat
open Go.RowKit Go.Proofs.YtjifpdcflankpaaGreat.Av Go.Proofs.YtjifpdcflankpaaGreat.Ml
open Go.Proofs.YtjifpdcflankpaaGreat.Av.AVal (av)
open OVal (ov oh on)
open Mk (mkv cnt)

instance : OVal TyItem := flatOV 128 (fun y x hx => by
 rw [av_TyItem] at hx
 simp only [AV.cells, List.mem_cons, List.not_mem_nil, or_false] at hx
 rcases hx with rfl | rfl | rfl <;> rfl)

instance : Mk TyItem := ⟨fun k x => ⟨k, markS (k + 1), k + 1 + 1⟩, fun x => 3⟩
theorem cnt_TyItem (x : TyItem) : cnt x = 3 := rfl
instance : MkB TyItem := ⟨fun x => by
 have hbx : Bulk.bulk x = Bulk.bulk x.var + Bulk.bulk x.name + Bulk.bulk x.arity + 1 := rfl
 have hbx_0 : Bulk.bulk x.var = 1 := rfl
 have hbx_1 : Bulk.bulk x.name = x.name.size + 1 := rfl
 have hbx_2 : Bulk.bulk x.arity = 1 := rfl
 rw [cnt_TyItem]
 omega⟩

instance : OVal Ty where
 ty := 78
 ov nm vs x := .agg [ov (sub nm 0) vs x.items]
 oh nm vs x := oh (sub nm 0) vs x.items
 on nm x := on (sub nm 0) x.items
 names nm vs x := OVal.names _ _ _
 inn nm x k h := (OVal.inn _ _ _ h).up
 self nm vs x := OVal.self _ _ _
 vdep nm vs vs' x h := by
  obtain ⟨a0, b0⟩ := OVal.vdep (sub nm 0) vs vs' x.items (fun k hk => h k hk.up)
  simp only [a0, b0, and_self]
 lend nm vs x hp h := by
  have h0 := OVal.lend (sub nm 0) vs x.items hp h
  show AV.agg [(ov (sub nm 0) vs x.items).pur (frzL (on (sub nm 0) x.items) hp)] = av x
  rw [h0]; rfl
 dep nm vs x hp hp' h := by
  have h0 := OVal.dep (sub nm 0) vs x.items hp hp' (fun k hk => h k hk.up)
  show AV.agg [(ov (sub nm 0) vs x.items).pur hp] = AV.agg [(ov (sub nm 0) vs x.items).pur hp']
  rw [h0]
 free nm vs x p h := by exact OVal.free _ _ _ p h
 cfree nm vs x y hx := by
  simp only [AV.cells, List.mem_cons, List.not_mem_nil, or_false] at hx
  subst hx <;> rfl
 ok _ _ _ := rfl
 agg _ _ _ := rfl
 len _ _ _ := rfl
instance : Mk Ty := ⟨fun k x => ⟨mkL (k) x.items⟩, fun x => cntL x.items⟩
theorem cnt_Ty (x : Ty) : cnt x = cntL x.items := rfl
instance : MkB Ty := ⟨fun x => by
 have hbx : Bulk.bulk x = Bulk.bulk x.items + 1 := rfl
 have hbx_0 := cntL_bulk x.items
 rw [cnt_Ty]
 omega⟩

instance : OVal Con where
 ty := 80
 ov nm vs x := .agg [.str x.name, .bool x.has, ov (sub nm 0) vs x.arg.items]
 oh nm vs x := oh (sub nm 0) vs x.arg.items
 on nm x := on (sub nm 0) x.arg.items
 names nm vs x := OVal.names _ _ _
 inn nm x k h := (OVal.inn _ _ _ h).up
 self nm vs x := OVal.self _ _ _
 vdep nm vs vs' x h := by
  obtain ⟨a0, b0⟩ := OVal.vdep (sub nm 0) vs vs' x.arg.items (fun k hk => h k hk.up)
  simp only [a0, b0, and_self]
 lend nm vs x hp h := by
  have h0 := OVal.lend (sub nm 0) vs x.arg.items hp h
  show AV.agg [.str x.name, .bool x.has, (ov (sub nm 0) vs x.arg.items).pur (frzL (on (sub nm 0) x.arg.items) hp)] = av x
  rw [h0]; rfl
 dep nm vs x hp hp' h := by
  have h0 := OVal.dep (sub nm 0) vs x.arg.items hp hp' (fun k hk => h k hk.up)
  show AV.agg [.str x.name, .bool x.has, (ov (sub nm 0) vs x.arg.items).pur hp] = AV.agg [.str x.name, .bool x.has, (ov (sub nm 0) vs x.arg.items).pur hp']
  rw [h0]
 free nm vs x p h := by exact OVal.free _ _ _ p h
 cfree nm vs x y hx := by
  simp only [AV.cells, List.mem_cons, List.not_mem_nil, or_false] at hx
  rcases hx with rfl | rfl | rfl <;> rfl
 ok _ _ _ := rfl
 agg _ _ _ := rfl
 len _ _ _ := rfl
theorem ov_Con (nm : Nat) (vs : Nat → Nat) (x : Con) : ov nm vs x = .agg [.str x.name, .bool x.has, .row (sub nm 0) (vs (sub nm 0)) x.arg.items.length] := eqq rfl
theorem oh_Con (nm : Nat) (vs : Nat → Nat) (x : Con) : oh nm vs x = oh (sub nm 0) vs x.arg.items := rfl

instance : Mk Con := ⟨fun k x => ⟨markS (k), decide ((k + 1).tmod 3 = 0), ⟨mkL (k + 1 + 1) x.arg.items⟩⟩, fun x => 2 + cntL x.arg.items⟩
theorem cnt_Con (x : Con) : cnt x = 2 + cntL x.arg.items := rfl
instance : MkB Con := ⟨fun x => by
 have hbx : Bulk.bulk x = Bulk.bulk x.name + Bulk.bulk x.has + Bulk.bulk x.arg + 1 := rfl
 have hbx_0 : Bulk.bulk x.name = x.name.size + 1 := rfl
 have hbx_1 : Bulk.bulk x.has = 1 := rfl
 have hbx_2 : Bulk.bulk x.arg = Bulk.bulk x.arg.items + 1 := rfl
 have hbx_2_0 := cntL_bulk x.arg.items
 rw [cnt_Con]
 omega⟩

instance : OVal TypeD where
 ty := 74
 ov nm vs x := .agg [.str x.name, .int .i64 x.params, ov (sub nm 0) vs x.cons]
 oh nm vs x := oh (sub nm 0) vs x.cons
 on nm x := on (sub nm 0) x.cons
 names nm vs x := OVal.names _ _ _
 inn nm x k h := (OVal.inn _ _ _ h).up
 self nm vs x := OVal.self _ _ _
 vdep nm vs vs' x h := by
  obtain ⟨a0, b0⟩ := OVal.vdep (sub nm 0) vs vs' x.cons (fun k hk => h k hk.up)
  simp only [a0, b0, and_self]
 lend nm vs x hp h := by
  have h0 := OVal.lend (sub nm 0) vs x.cons hp h
  show AV.agg [.str x.name, .int .i64 x.params, (ov (sub nm 0) vs x.cons).pur (frzL (on (sub nm 0) x.cons) hp)] = av x
  rw [h0]; rfl
 dep nm vs x hp hp' h := by
  have h0 := OVal.dep (sub nm 0) vs x.cons hp hp' (fun k hk => h k hk.up)
  show AV.agg [.str x.name, .int .i64 x.params, (ov (sub nm 0) vs x.cons).pur hp] = AV.agg [.str x.name, .int .i64 x.params, (ov (sub nm 0) vs x.cons).pur hp']
  rw [h0]
 free nm vs x p h := by exact OVal.free _ _ _ p h
 cfree nm vs x y hx := by
  simp only [AV.cells, List.mem_cons, List.not_mem_nil, or_false] at hx
  rcases hx with rfl | rfl | rfl <;> rfl
 ok _ _ _ := rfl
 agg _ _ _ := rfl
 len _ _ _ := rfl
theorem ov_TypeD (nm : Nat) (vs : Nat → Nat) (x : TypeD) : ov nm vs x = .agg [.str x.name, .int .i64 x.params, .row (sub nm 0) (vs (sub nm 0)) x.cons.length] := eqq rfl
theorem oh_TypeD (nm : Nat) (vs : Nat → Nat) (x : TypeD) : oh nm vs x = oh (sub nm 0) vs x.cons := rfl

instance : Mk TypeD := ⟨fun k x => ⟨markS (k), k + 1, mkL (k + 1 + 1) x.cons⟩, fun x => 2 + cntL x.cons⟩
theorem cnt_TypeD (x : TypeD) : cnt x = 2 + cntL x.cons := rfl
instance : MkB TypeD := ⟨fun x => by
 have hbx : Bulk.bulk x = Bulk.bulk x.name + Bulk.bulk x.params + Bulk.bulk x.cons + 1 := rfl
 have hbx_0 : Bulk.bulk x.name = x.name.size + 1 := rfl
 have hbx_1 : Bulk.bulk x.params = 1 := rfl
 have hbx_2 := cntL_bulk x.cons
 rw [cnt_TypeD]
 omega⟩

instance : OVal Node where
 ty := 44
 ov nm vs x := .agg [.int .i64 x.kind, .int .i64 x.pos, .int .i64 x.n, .str x.s, ov (sub nm 0) vs x.kids, ov (sub nm 1) vs x.pats]
 oh nm vs x := oh (sub nm 0) vs x.kids ++ oh (sub nm 1) vs x.pats
 on nm x := on (sub nm 0) x.kids ++ on (sub nm 1) x.pats
 names nm vs x := by simp only [List.map_append, OVal.names]
 inn nm x k h := by rcases List.mem_append.1 h with h | h <;> exact (OVal.inn _ _ _ h).up
 self nm vs x := self2 (OVal.self _ _ _) (OVal.self _ _ _) fun p hp q hq e => by
  have h1 := OVal.inh hp
  have h2 := OVal.inh hq
  rw [e] at h2
  have := h1.sib h2
  omega
 vdep nm vs vs' x h := by
  obtain ⟨a0, b0⟩ := OVal.vdep (sub nm 0) vs vs' x.kids (fun k hk => h k hk.up)
  obtain ⟨a1, b1⟩ := OVal.vdep (sub nm 1) vs vs' x.pats (fun k hk => h k hk.up)
  simp only [a0, b0, a1, b1, and_self]
 lend nm vs x hp h := by
  rw [hpLe_app] at h
  have h0 := OVal.lend (sub nm 0) vs x.kids hp h.1
  have h1 := OVal.lend (sub nm 1) vs x.pats (frzL (on (sub nm 0) x.kids) hp) (hpLe_frz (fun p hp => on_out (sib_ne (by omega) (OVal.inh hp))) h.2)
  rw [← frzL_app] at h1
  have d0 : (ov (sub nm 0) vs x.kids).pur (frzL (on (sub nm 0) x.kids ++ on (sub nm 1) x.pats) hp) = (ov (sub nm 0) vs x.kids).pur (frzL (on (sub nm 0) x.kids) hp) := OVal.dep _ _ _ _ _ fun k hk => by
   rw [frzL_app, hget_frzL_out (on_out (sib_ne (by omega) hk))]
  rw [← d0] at h0
  show AV.agg [.int .i64 x.kind, .int .i64 x.pos, .int .i64 x.n, .str x.s, (ov (sub nm 0) vs x.kids).pur (frzL (on (sub nm 0) x.kids ++ on (sub nm 1) x.pats) hp), (ov (sub nm 1) vs x.pats).pur (frzL (on (sub nm 0) x.kids ++ on (sub nm 1) x.pats) hp)] = av x
  rw [h0, h1]; rfl
 dep nm vs x hp hp' h := by
  have h0 := OVal.dep (sub nm 0) vs x.kids hp hp' (fun k hk => h k hk.up)
  have h1 := OVal.dep (sub nm 1) vs x.pats hp hp' (fun k hk => h k hk.up)
  show AV.agg [.int .i64 x.kind, .int .i64 x.pos, .int .i64 x.n, .str x.s, (ov (sub nm 0) vs x.kids).pur hp, (ov (sub nm 1) vs x.pats).pur hp] = AV.agg [.int .i64 x.kind, .int .i64 x.pos, .int .i64 x.n, .str x.s, (ov (sub nm 0) vs x.kids).pur hp', (ov (sub nm 1) vs x.pats).pur hp']
  rw [h0, h1]
 free nm vs x p h := by rcases List.mem_append.1 h with h | h <;> exact OVal.free _ _ _ p h
 cfree nm vs x y hx := by
  simp only [AV.cells, List.mem_cons, List.not_mem_nil, or_false] at hx
  rcases hx with rfl | rfl | rfl | rfl | rfl | rfl <;> rfl
 ok _ _ _ := rfl
 agg _ _ _ := rfl
 len _ _ _ := rfl
theorem ov_Node (nm : Nat) (vs : Nat → Nat) (x : Node) : ov nm vs x = .agg [.int .i64 x.kind, .int .i64 x.pos, .int .i64 x.n, .str x.s, .row (sub nm 0) (vs (sub nm 0)) x.kids.length, .row (sub nm 1) (vs (sub nm 1)) x.pats.length] := eqq rfl
theorem oh_Node (nm : Nat) (vs : Nat → Nat) (x : Node) : oh nm vs x = oh (sub nm 0) vs x.kids ++ oh (sub nm 1) vs x.pats := rfl

instance : Mk Node := ⟨fun k x => ⟨k, k + 1, k + 1 + 1, markS (k + 1 + 1 + 1), mkL (k + 1 + 1 + 1 + 1) x.kids, mkL (k + 1 + 1 + 1 + 1 + (cntL x.kids : Int)) x.pats⟩, fun x => 4 + cntL x.kids + cntL x.pats⟩
theorem cnt_Node (x : Node) : cnt x = 4 + cntL x.kids + cntL x.pats := rfl
instance : MkB Node := ⟨fun x => by
 have hbx : Bulk.bulk x = Bulk.bulk x.kind + Bulk.bulk x.pos + Bulk.bulk x.n + Bulk.bulk x.s + Bulk.bulk x.kids + Bulk.bulk x.pats + 1 := rfl
 have hbx_0 : Bulk.bulk x.kind = 1 := rfl
 have hbx_1 : Bulk.bulk x.pos = 1 := rfl
 have hbx_2 : Bulk.bulk x.n = 1 := rfl
 have hbx_3 : Bulk.bulk x.s = x.s.size + 1 := rfl
 have hbx_4 := cntL_bulk x.kids
 have hbx_5 := cntL_bulk x.pats
 rw [cnt_Node]
 omega⟩

instance : OVal Program where
 ty := 30
 ov nm vs x := .agg [ov (sub nm 0) vs x.types, ov (sub nm 1) vs x.nodes]
 oh nm vs x := oh (sub nm 0) vs x.types ++ oh (sub nm 1) vs x.nodes
 on nm x := on (sub nm 0) x.types ++ on (sub nm 1) x.nodes
 names nm vs x := by simp only [List.map_append, OVal.names]
 inn nm x k h := by rcases List.mem_append.1 h with h | h <;> exact (OVal.inn _ _ _ h).up
 self nm vs x := self2 (OVal.self _ _ _) (OVal.self _ _ _) fun p hp q hq e => by
  have h1 := OVal.inh hp
  have h2 := OVal.inh hq
  rw [e] at h2
  have := h1.sib h2
  omega
 vdep nm vs vs' x h := by
  obtain ⟨a0, b0⟩ := OVal.vdep (sub nm 0) vs vs' x.types (fun k hk => h k hk.up)
  obtain ⟨a1, b1⟩ := OVal.vdep (sub nm 1) vs vs' x.nodes (fun k hk => h k hk.up)
  simp only [a0, b0, a1, b1, and_self]
 lend nm vs x hp h := by
  rw [hpLe_app] at h
  have h0 := OVal.lend (sub nm 0) vs x.types hp h.1
  have h1 := OVal.lend (sub nm 1) vs x.nodes (frzL (on (sub nm 0) x.types) hp) (hpLe_frz (fun p hp => on_out (sib_ne (by omega) (OVal.inh hp))) h.2)
  rw [← frzL_app] at h1
  have d0 : (ov (sub nm 0) vs x.types).pur (frzL (on (sub nm 0) x.types ++ on (sub nm 1) x.nodes) hp) = (ov (sub nm 0) vs x.types).pur (frzL (on (sub nm 0) x.types) hp) := OVal.dep _ _ _ _ _ fun k hk => by
   rw [frzL_app, hget_frzL_out (on_out (sib_ne (by omega) hk))]
  rw [← d0] at h0
  show AV.agg [(ov (sub nm 0) vs x.types).pur (frzL (on (sub nm 0) x.types ++ on (sub nm 1) x.nodes) hp), (ov (sub nm 1) vs x.nodes).pur (frzL (on (sub nm 0) x.types ++ on (sub nm 1) x.nodes) hp)] = av x
  rw [h0, h1]; rfl
 dep nm vs x hp hp' h := by
  have h0 := OVal.dep (sub nm 0) vs x.types hp hp' (fun k hk => h k hk.up)
  have h1 := OVal.dep (sub nm 1) vs x.nodes hp hp' (fun k hk => h k hk.up)
  show AV.agg [(ov (sub nm 0) vs x.types).pur hp, (ov (sub nm 1) vs x.nodes).pur hp] = AV.agg [(ov (sub nm 0) vs x.types).pur hp', (ov (sub nm 1) vs x.nodes).pur hp']
  rw [h0, h1]
 free nm vs x p h := by rcases List.mem_append.1 h with h | h <;> exact OVal.free _ _ _ p h
 cfree nm vs x y hx := by
  simp only [AV.cells, List.mem_cons, List.not_mem_nil, or_false] at hx
  rcases hx with rfl | rfl <;> rfl
 ok _ _ _ := rfl
 agg _ _ _ := rfl
 len _ _ _ := rfl
theorem ov_Program (nm : Nat) (vs : Nat → Nat) (x : Program) : ov nm vs x = .agg [.row (sub nm 0) (vs (sub nm 0)) x.types.length, .row (sub nm 1) (vs (sub nm 1)) x.nodes.length] := eqq rfl
theorem oh_Program (nm : Nat) (vs : Nat → Nat) (x : Program) : oh nm vs x = oh (sub nm 0) vs x.types ++ oh (sub nm 1) vs x.nodes := rfl

instance : Mk Program := ⟨fun k x => ⟨mkL (k) x.types, mkL (k + (cntL x.types : Int)) x.nodes⟩, fun x => cntL x.types + cntL x.nodes⟩
theorem cnt_Program (x : Program) : cnt x = cntL x.types + cntL x.nodes := rfl
instance : MkB Program := ⟨fun x => by
 have hbx : Bulk.bulk x = Bulk.bulk x.types + Bulk.bulk x.nodes + 1 := rfl
 have hbx_0 := cntL_bulk x.types
 have hbx_1 := cntL_bulk x.nodes
 rw [cnt_Program]
 omega⟩

end Go.Proofs.YtjifpdcflankpaaGreat
