/-
  Struct types of the program as Lean's, their cells; the table of types. Printed by a tool of mine (gen.py).
-/
import Derived.Test.YtomcnpeeelhpcaaGreatDoorVwEv
namespace Go.Vw
open Go

@[ext] structure GRuntimeBoundserror where
  x_ : Int
  y : Int
  signed : Bool
  code : Int

abbrev cGRuntimeBoundserror (x : GRuntimeBoundserror) : List Value := [.int .i64 x.x_, .int .i64 x.y, .bool x.signed, .int .u8 x.code]

@[ext] structure GRuntimeErroraddressstring where
  msg : List UInt8
  addr : Int

abbrev cGRuntimeErroraddressstring (x : GRuntimeErroraddressstring) : List Value := [S x.msg, .int .u64 x.addr]

@[ext] structure GPharoslaw12Act where
  Kind : Int
  Height : Int
  Changes : Sl

abbrev cGPharoslaw12Act (x : GPharoslaw12Act) : List Value := [.int .i64 x.Kind, .int .i64 x.Height, .slice x.Changes.a x.Changes.len x.Changes.cap]

@[ext] structure GApiItem where
  Key : List UInt8
  Value : List UInt8

abbrev cGApiItem (x : GApiItem) : List Value := [S x.Key, S x.Value]

@[ext] structure GPharosref31Disk where
  S : List UInt8
  Safe : Int
  Room : Int
  Fuse : Int
  Down : Bool

abbrev cGPharosref31Disk (x : GPharosref31Disk) : List Value := [S x.S, .int .i64 x.Safe, .int .i64 x.Room, .int .i64 x.Fuse, .bool x.Down]

@[ext] structure GPharosref33Store where
  L : Sl
  Span : Int
  Disk : GPharosref31Disk
  Broken : Bool

abbrev cGPharosref33Store (x : GPharosref33Store) : List Value := [.slice x.L.a x.L.len x.L.cap, .int .i64 x.Span, S x.Disk.S, .int .i64 x.Disk.Safe, .int .i64 x.Disk.Room, .int .i64 x.Disk.Fuse, .bool x.Disk.Down, .bool x.Broken]

@[ext] structure GPharoslaw33Act where
  Kind : Int
  N : Int
  L : Sl
  Heights : Sl

abbrev cGPharoslaw33Act (x : GPharoslaw33Act) : List Value := [.int .i64 x.Kind, .int .i64 x.N, .slice x.L.a x.L.len x.L.cap, .slice x.Heights.a x.Heights.len x.Heights.cap]

@[ext] structure GApiHeader where
  Height : Int
  Epoch : Int
  View : Int
  Last : Bool
  Parent : List UInt8
  State : List UInt8
  Receipts : List UInt8
  Txs : List UInt8
  Members : List UInt8
  Next : List UInt8
  Skips : Sl

abbrev cGApiHeader (x : GApiHeader) : List Value := [.int .i64 x.Height, .int .i64 x.Epoch, .int .i64 x.View, .bool x.Last, S x.Parent, S x.State, S x.Receipts, S x.Txs, S x.Members, S x.Next, .slice x.Skips.a x.Skips.len x.Skips.cap]

@[ext] structure GApiTrusted where
  Head : GApiHeader
  Next : Sl
  At : Int

abbrev cGApiTrusted (x : GApiTrusted) : List Value := [.int .i64 x.Head.Height, .int .i64 x.Head.Epoch, .int .i64 x.Head.View, .bool x.Head.Last, S x.Head.Parent, S x.Head.State, S x.Head.Receipts, S x.Head.Txs, S x.Head.Members, S x.Head.Next, .slice x.Head.Skips.a x.Head.Skips.len x.Head.Skips.cap, .slice x.Next.a x.Next.len x.Next.cap, .int .i64 x.At]

@[ext] structure GPharoslaw26Start where
  Accounts : Sl
  Set : Sl
  Bad : Sl

abbrev cGPharoslaw26Start (x : GPharoslaw26Start) : List Value := [.slice x.Accounts.a x.Accounts.len x.Accounts.cap, .slice x.Set.a x.Set.len x.Set.cap, .slice x.Bad.a x.Bad.len x.Bad.cap]

@[ext] structure GPharoslaw26Yard where
  x_ : GPharoslaw26Start
  t : Option Addr
  run : Sl
  all : Sl
  told : Sl
  said : Sl
  by_ : Sl

abbrev cGPharoslaw26Yard (x : GPharoslaw26Yard) : List Value := [.slice x.x_.Accounts.a x.x_.Accounts.len x.x_.Accounts.cap, .slice x.x_.Set.a x.x_.Set.len x.x_.Set.cap, .slice x.x_.Bad.a x.x_.Bad.len x.x_.Bad.cap, .pointer x.t, .slice x.run.a x.run.len x.run.cap, .slice x.all.a x.all.len x.all.cap, .slice x.told.a x.told.len x.told.cap, .slice x.said.a x.said.len x.said.cap, .slice x.by_.a x.by_.len x.by_.cap]

@[ext] structure GApiCert where
  Digest : List UInt8
  Signers : Sl

abbrev cGApiCert (x : GApiCert) : List Value := [S x.Digest, .slice x.Signers.a x.Signers.len x.Signers.cap]

@[ext] structure GApiBlock where
  Head : GApiHeader
  Txs : Sl
  Just : GApiCert

abbrev cGApiBlock (x : GApiBlock) : List Value := [.int .i64 x.Head.Height, .int .i64 x.Head.Epoch, .int .i64 x.Head.View, .bool x.Head.Last, S x.Head.Parent, S x.Head.State, S x.Head.Receipts, S x.Head.Txs, S x.Head.Members, S x.Head.Next, .slice x.Head.Skips.a x.Head.Skips.len x.Head.Skips.cap, .slice x.Txs.a x.Txs.len x.Txs.cap, S x.Just.Digest, .slice x.Just.Signers.a x.Just.Signers.len x.Just.Signers.cap]

@[ext] structure GApiMsg where
  Kind : Int
  From : List UInt8
  Epoch : Int
  View : Int
  Digest : List UInt8
  Block : GApiBlock
  Cert : GApiCert

abbrev cGApiMsg (x : GApiMsg) : List Value := [.int .i64 x.Kind, S x.From, .int .i64 x.Epoch, .int .i64 x.View, S x.Digest, .int .i64 x.Block.Head.Height, .int .i64 x.Block.Head.Epoch, .int .i64 x.Block.Head.View, .bool x.Block.Head.Last, S x.Block.Head.Parent, S x.Block.Head.State, S x.Block.Head.Receipts, S x.Block.Head.Txs, S x.Block.Head.Members, S x.Block.Head.Next, .slice x.Block.Head.Skips.a x.Block.Head.Skips.len x.Block.Head.Skips.cap, .slice x.Block.Txs.a x.Block.Txs.len x.Block.Txs.cap, S x.Block.Just.Digest, .slice x.Block.Just.Signers.a x.Block.Just.Signers.len x.Block.Just.Signers.cap, S x.Cert.Digest, .slice x.Cert.Signers.a x.Cert.Signers.len x.Cert.Signers.cap]

@[ext] structure GApiTx where
  Kind : Int
  From : List UInt8
  Seq : Int
  To : List UInt8
  Amount : Int
  Key : List UInt8
  Value : List UInt8
  Members : Sl

abbrev cGApiTx (x : GApiTx) : List Value := [.int .i64 x.Kind, S x.From, .int .i64 x.Seq, S x.To, .int .i64 x.Amount, S x.Key, S x.Value, .slice x.Members.a x.Members.len x.Members.cap]

@[ext] structure GPharoslaw26Act where
  Kind : Int
  Who : Int
  N : Int
  Tx : GApiTx

abbrev cGPharoslaw26Act (x : GPharoslaw26Act) : List Value := [.int .i64 x.Kind, .int .i64 x.Who, .int .i64 x.N, .int .i64 x.Tx.Kind, S x.Tx.From, .int .i64 x.Tx.Seq, S x.Tx.To, .int .i64 x.Tx.Amount, S x.Tx.Key, S x.Tx.Value, .slice x.Tx.Members.a x.Tx.Members.len x.Tx.Members.cap]

@[ext] structure GVersVers where
  texts : Option Addr
  roots : Option Nat
  newest : Option Addr
  last : Int
  below : Int

abbrev cGVersVers (x : GVersVers) : List Value := [.pointer x.texts, .map x.roots, .pointer x.newest, .int .i64 x.last, .int .i64 x.below]

@[ext] structure GTrieTrie where
  top : Option Addr

abbrev cGTrieTrie (x : GTrieTrie) : List Value := [.pointer x.top]

@[ext] structure GApiNode where
  Kind : Int
  Path : List UInt8
  Value : List UInt8
  Kids : List (List UInt8)

abbrev cGApiNode (x : GApiNode) : List Value := (.int .i64 x.Kind) :: (S x.Path) :: (S x.Value) :: (((fun l => l.map (fun (x : List UInt8) => (S x : Value))) x.Kids))

@[ext] structure GTrieKnot where
  n : GApiNode
  kids : List (Option Addr)
  text : List UInt8
  sum : List UInt8
  many : Int

abbrev cGTrieKnot (x : GTrieKnot) : List Value := (.int .i64 x.n.Kind) :: (S x.n.Path) :: (S x.n.Value) :: (((fun l => l.map (fun (x : List UInt8) => (S x : Value))) x.n.Kids) ++ (((fun l => l.map (fun (x : Option Addr) => (.pointer x : Value))) x.kids) ++ ([S x.text, S x.sum, .int .i64 x.many])))

@[ext] structure GDiskDisk where
  bytes : Sl
  safe : Int
  room : Int
  fuse : Int
  down : Bool

abbrev cGDiskDisk (x : GDiskDisk) : List Value := [.slice x.bytes.a x.bytes.len x.bytes.cap, .int .i64 x.safe, .int .i64 x.room, .int .i64 x.fuse, .bool x.down]

@[ext] structure GTrustStore where
  all : Option Nat
  span : Int
  log : Option Addr

abbrev cGTrustStore (x : GTrustStore) : List Value := [.map x.all, .int .i64 x.span, .pointer x.log]

@[ext] structure GPharosref02Reader where
  S : List UInt8
  E : Int

abbrev cGPharosref02Reader (x : GPharosref02Reader) : List Value := [S x.S, .int .i64 x.E]

@[ext] structure GApiAccount where
  Name : List UInt8
  Amount : Int
  Seq : Int

abbrev cGApiAccount (x : GApiAccount) : List Value := [S x.Name, .int .i64 x.Amount, .int .i64 x.Seq]

@[ext] structure GApiMember where
  Name : List UInt8
  Power : Int

abbrev cGApiMember (x : GApiMember) : List Value := [S x.Name, .int .i64 x.Power]

@[ext] structure GSafetyRules where
  Voted : Int
  Lock : Int

abbrev cGSafetyRules (x : GSafetyRules) : List Value := [.int .i64 x.Voted, .int .i64 x.Lock]

@[ext] structure GReplicaEpoch where
  number : Int
  set_ : Sl
  tree : Option Addr
  knots : Option Nat
  certs : Option Nat
  rules : GSafetyRules
  view : Int
  proposed : Int
  waits : Sl
  behind : Sl

abbrev cGReplicaEpoch (x : GReplicaEpoch) : List Value := [.int .i64 x.number, .slice x.set_.a x.set_.len x.set_.cap, .pointer x.tree, .map x.knots, .map x.certs, .int .i64 x.rules.Voted, .int .i64 x.rules.Lock, .int .i64 x.view, .int .i64 x.proposed, .slice x.waits.a x.waits.len x.waits.cap, .slice x.behind.a x.behind.len x.behind.cap]

@[ext] structure GReplicaReplica where
  name : List UInt8
  table : Option Addr
  done : Option Addr
  pool : Sl
  signed : Option Nat
  epoch : GReplicaEpoch

abbrev cGReplicaReplica (x : GReplicaReplica) : List Value := [S x.name, .pointer x.table, .pointer x.done, .slice x.pool.a x.pool.len x.pool.cap, .map x.signed, .int .i64 x.epoch.number, .slice x.epoch.set_.a x.epoch.set_.len x.epoch.set_.cap, .pointer x.epoch.tree, .map x.epoch.knots, .map x.epoch.certs, .int .i64 x.epoch.rules.Voted, .int .i64 x.epoch.rules.Lock, .int .i64 x.epoch.view, .int .i64 x.epoch.proposed, .slice x.epoch.waits.a x.epoch.waits.len x.epoch.waits.cap, .slice x.epoch.behind.a x.epoch.behind.len x.epoch.behind.cap]

@[ext] structure GLedgerLedger where
  all : Sl
  next : Sl

abbrev cGLedgerLedger (x : GLedgerLedger) : List Value := [.slice x.all.a x.all.len x.all.cap, .slice x.next.a x.next.len x.next.cap]

@[ext] structure GLedgerEntry where
  head : GApiHeader
  sum : List UInt8
  txs : Sl
  receipts : Sl
  state : Option Addr
  set_ : Sl

abbrev cGLedgerEntry (x : GLedgerEntry) : List Value := [.int .i64 x.head.Height, .int .i64 x.head.Epoch, .int .i64 x.head.View, .bool x.head.Last, S x.head.Parent, S x.head.State, S x.head.Receipts, S x.head.Txs, S x.head.Members, S x.head.Next, .slice x.head.Skips.a x.head.Skips.len x.head.Skips.cap, S x.sum, .slice x.txs.a x.txs.len x.txs.cap, .slice x.receipts.a x.receipts.len x.receipts.cap, .pointer x.state, .slice x.set_.a x.set_.len x.set_.cap]

@[ext] structure GStoreStore where
  texts : Option Nat

abbrev cGStoreStore (x : GStoreStore) : List Value := [.map x.texts]

@[ext] structure GTrieLoader where
  s : Option Addr
  many : Int
  code : Int

abbrev cGTrieLoader (x : GTrieLoader) : List Value := [.pointer x.s, .int .i64 x.many, .int .i64 x.code]

@[ext] structure GJournalJournal where
  d : Option Addr
  broken : Bool

abbrev cGJournalJournal (x : GJournalJournal) : List Value := [.pointer x.d, .bool x.broken]

@[ext] structure GOracleTable where
  at_ : Option Nat
  all : Sl

abbrev cGOracleTable (x : GOracleTable) : List Value := [.map x.at_, .slice x.all.a x.all.len x.all.cap]

@[ext] structure GReplicaKnot where
  head : GApiHeader
  sums : Sl
  ended : Bool
  after : Option Addr

abbrev cGReplicaKnot (x : GReplicaKnot) : List Value := [.int .i64 x.head.Height, .int .i64 x.head.Epoch, .int .i64 x.head.View, .bool x.head.Last, S x.head.Parent, S x.head.State, S x.head.Receipts, S x.head.Txs, S x.head.Members, S x.head.Next, .slice x.head.Skips.a x.head.Skips.len x.head.Skips.cap, .slice x.sums.a x.sums.len x.sums.cap, .bool x.ended, .pointer x.after]

@[ext] structure GApiSigned where
  Who : List UInt8
  Mark : List UInt8
  Honest : Bool

abbrev cGApiSigned (x : GApiSigned) : List Value := [S x.Who, S x.Mark, .bool x.Honest]

@[ext] structure GStringsBuilder where
  addr : Option Addr
  buf : Sl

abbrev cGStringsBuilder (x : GStringsBuilder) : List Value := [.pointer x.addr, .slice x.buf.a x.buf.len x.buf.cap]

@[ext] structure GCodeReader where
  s : List UInt8
  at_ : Int
  code : Int

abbrev cGCodeReader (x : GCodeReader) : List Value := [S x.s, .int .i64 x.at_, .int .i64 x.code]

@[ext] structure GTreeTwig where
  sum : List UInt8
  parent : Int
  view : Int
  certified : Bool

abbrev cGTreeTwig (x : GTreeTwig) : List Value := [S x.sum, .int .i64 x.parent, .int .i64 x.view, .bool x.certified]

@[ext] structure GTreeTree where
  all : Sl
  at_ : Option Nat
  high : Int

abbrev cGTreeTree (x : GTreeTree) : List Value := [.slice x.all.a x.all.len x.all.cap, .map x.at_, .int .i64 x.high]

@[ext] structure GApiReceipt where
  Code : Int
  From : List UInt8
  Seq : Int

abbrev cGApiReceipt (x : GApiReceipt) : List Value := [.int .i64 x.Code, S x.From, .int .i64 x.Seq]

@[ext] structure GExecWork where
  t : Option Addr
  code : Int

abbrev cGExecWork (x : GExecWork) : List Value := [.pointer x.t, .int .i64 x.code]

@[ext] structure GShaHash where
  words : List Int
  tail : Sl
  long : Int

abbrev cGShaHash (x : GShaHash) : List Value := ((fun l => l.map (fun (x : Int) => (.int .u32 x : Value))) x.words) ++ ([.slice x.tail.a x.tail.len x.tail.cap, .int .i64 x.long])

@[ext] structure GAbiType where
  Size_ : Int
  PtrBytes : Int
  Hash : Int
  TFlag : Int
  Align_ : Int
  FieldAlign_ : Int
  Kind_ : Int
  Equal : FnV
  GCData : Option Addr
  Str : Int
  PtrToThis : Int

abbrev cGAbiType (x : GAbiType) : List Value := [.int .u64 x.Size_, .int .u64 x.PtrBytes, .int .u32 x.Hash, .int .u8 x.TFlag, .int .u8 x.Align_, .int .u8 x.FieldAlign_, .int .u8 x.Kind_, .func x.Equal.fn x.Equal.first x.Equal.captured, .pointer x.GCData, .int .i32 x.Str, .int .i32 x.PtrToThis]

def lkT : List (Nat × Ty) → Nat → Option Ty
  | [], _ => none
  | p :: r, t => match Nat.beq p.1 t with
    | true => some p.2
    | false => lkT r t
def tyT0 : List (Nat × Ty) := [(1, .func), (2, (.int .i64)), (3, (.int .i64)), (4, .bool), (5, (.int .u8)), (7, (.st GRuntimeBoundserror cGRuntimeBoundserror 4)), (9, .str), (12, (.int .u64)), (13, (.st GRuntimeErroraddressstring cGRuntimeErroraddressstring 2))]
def tyT1 : List (Nat × Ty) := [(20, .iface), (21, (.int .i32)), (22, .slice), (23, .func), (24, .func), (25, .ptr), (26, .func), (27, .slice), (28, (.st GPharoslaw12Act cGPharoslaw12Act 3)), (29, (.st GPharoslaw12Act cGPharoslaw12Act 3)), (30, (.int .i64))]
def tyT2 : List (Nat × Ty) := [(32, .func), (33, .slice), (34, .func), (35, .func), (36, .func), (37, .func), (38, .map), (39, .slice), (40, .ptr), (41, .func), (42, (.st GApiItem cGApiItem 2)), (43, (.st GApiItem cGApiItem 2)), (45, .func), (46, .func), (47, .func)]
def tyT3 : List (Nat × Ty) := [(48, .func), (49, .func), (50, .func), (51, .func), (52, .slice), (53, .func), (54, .ptr), (56, .func), (57, (.st GPharosref31Disk cGPharosref31Disk 5)), (58, (.st GPharosref31Disk cGPharosref31Disk 5)), (60, .func), (61, .ptr), (63, .func)]
def tyT4 : List (Nat × Ty) := [(64, .slice), (65, (.st GPharosref33Store cGPharosref33Store 8)), (66, (.st GPharosref33Store cGPharosref33Store 8)), (68, .func), (69, (.st GPharoslaw33Act cGPharoslaw33Act 4)), (70, (.st GPharoslaw33Act cGPharoslaw33Act 4)), (71, .func), (73, .func), (74, .func), (75, (.st GApiHeader cGApiHeader 11)), (76, (.st GApiHeader cGApiHeader 11)), (77, .slice), (78, (.st GApiTrusted cGApiTrusted 13)), (79, (.st GApiTrusted cGApiTrusted 13))]
def tyT5 : List (Nat × Ty) := [(80, .func), (81, .func), (83, .func), (85, .func), (86, .func), (87, .func), (88, .func), (89, .func), (90, .slice), (91, (.st GPharoslaw26Start cGPharoslaw26Start 3)), (92, (.st GPharoslaw26Start cGPharoslaw26Start 3)), (93, .slice), (94, .ptr), (95, .func)]
def tyT6 : List (Nat × Ty) := [(96, .ptr), (97, .slice), (98, .slice), (99, (.st GPharoslaw26Yard cGPharoslaw26Yard 9)), (100, (.st GPharoslaw26Yard cGPharoslaw26Yard 9)), (101, .ptr), (102, .ptr), (103, .func), (104, .func), (105, (.st GApiCert cGApiCert 2)), (106, (.st GApiCert cGApiCert 2)), (108, .func), (110, .func), (111, .func)]
def tyT7 : List (Nat × Ty) := [(112, .func), (113, .slice), (114, (.st GApiBlock cGApiBlock 14)), (115, (.st GApiBlock cGApiBlock 14)), (116, (.st GApiMsg cGApiMsg 21)), (117, (.st GApiMsg cGApiMsg 21)), (118, .func), (119, .func), (120, .slice), (121, (.st GApiTx cGApiTx 8)), (122, (.st GApiTx cGApiTx 8)), (123, (.st GPharoslaw26Act cGPharoslaw26Act 11)), (124, (.st GPharoslaw26Act cGPharoslaw26Act 11)), (125, (.int .u64)), (126, .func)]
def tyT8 : List (Nat × Ty) := [(128, .func), (130, .func), (132, .func), (133, .func), (134, .func), (135, .func), (136, .func), (137, .func), (138, .ptr), (139, .func), (140, .map), (141, (.st GVersVers cGVersVers 5)), (142, (.st GVersVers cGVersVers 5)), (143, .func)]
def tyT9 : List (Nat × Ty) := [(144, .slice), (145, .func), (146, .func), (147, .func), (148, .func), (149, .func), (151, .ptr), (152, (.st GTrieTrie cGTrieTrie 1)), (153, (.st GTrieTrie cGTrieTrie 1)), (154, .func), (155, .func), (156, .func), (157, .func), (158, .func), (159, (.st (List (List UInt8)) ((fun l => l.map (fun (x : List UInt8) => (S x : Value)))) 0))]
def tyT10 : List (Nat × Ty) := [(160, (.st GApiNode cGApiNode 3)), (161, (.st GApiNode cGApiNode 3)), (162, (.st (List (Option Addr)) ((fun l => l.map (fun (x : Option Addr) => (.pointer x : Value)))) 0)), (163, (.st GTrieKnot cGTrieKnot 3)), (164, (.st GTrieKnot cGTrieKnot 3)), (165, .func), (166, .func), (167, .func), (168, .func), (169, .func), (170, .func), (172, .func), (173, .func), (174, (.st GDiskDisk cGDiskDisk 5)), (175, (.st GDiskDisk cGDiskDisk 5))]
def tyT11 : List (Nat × Ty) := [(176, .ptr), (177, .slice), (179, .func), (180, .map), (181, (.st GTrustStore cGTrustStore 3)), (182, (.st GTrustStore cGTrustStore 3)), (184, .func), (185, .func), (186, .func), (187, .ptr), (188, (.st GPharosref02Reader cGPharosref02Reader 2)), (189, (.st GPharosref02Reader cGPharosref02Reader 2)), (191, .func)]
def tyT12 : List (Nat × Ty) := [(192, .func), (193, .func), (194, .func), (195, .func), (197, .func), (198, .func), (199, .func), (200, .func), (201, .func), (202, .func), (203, .func), (204, .func), (205, .func), (206, .func), (207, .func)]
def tyT13 : List (Nat × Ty) := [(208, .func), (209, .func), (210, (.st GApiAccount cGApiAccount 3)), (211, (.st GApiAccount cGApiAccount 3)), (212, (.st GApiMember cGApiMember 2)), (213, (.st GApiMember cGApiMember 2)), (214, .func), (216, .func), (217, .func), (219, .func), (220, .func), (221, .func), (222, .func), (223, .map)]
def tyT14 : List (Nat × Ty) := [(224, .ptr), (225, .map), (226, .map), (227, (.st GSafetyRules cGSafetyRules 2)), (228, (.st GSafetyRules cGSafetyRules 2)), (229, (.st GReplicaEpoch cGReplicaEpoch 11)), (230, (.st GReplicaEpoch cGReplicaEpoch 11)), (231, (.st GReplicaReplica cGReplicaReplica 16)), (232, (.st GReplicaReplica cGReplicaReplica 16)), (233, .slice), (234, (.st GLedgerLedger cGLedgerLedger 2)), (235, (.st GLedgerLedger cGLedgerLedger 2)), (236, .func), (237, .func), (238, .slice), (239, (.st GLedgerEntry cGLedgerEntry 16))]
def tyT15 : List (Nat × Ty) := [(240, (.st GLedgerEntry cGLedgerEntry 16)), (242, .func), (243, .func), (244, .func), (245, .func), (246, .func), (247, .func), (248, .func), (249, .func), (250, .func), (251, .map), (252, .func), (253, .func), (254, .func), (255, .func)]
def tyT16 : List (Nat × Ty) := [(256, .func), (257, .func), (258, .func), (259, .func), (260, .func), (262, .func), (263, .func), (264, .func), (265, .func), (266, .func), (267, .func), (268, .map), (269, (.st GStoreStore cGStoreStore 1)), (270, (.st GStoreStore cGStoreStore 1)), (271, .func)]
def tyT17 : List (Nat × Ty) := [(272, .func), (273, .func), (274, .func), (275, .ptr), (276, (.st GTrieLoader cGTrieLoader 3)), (277, (.st GTrieLoader cGTrieLoader 3)), (278, .func), (279, .func), (280, .func), (282, .func), (283, .func), (284, (.st GJournalJournal cGJournalJournal 2)), (285, (.st GJournalJournal cGJournalJournal 2)), (286, .ptr), (287, .func)]
def tyT18 : List (Nat × Ty) := [(288, .func), (289, .func), (290, .func), (291, .func), (293, .func), (294, .func), (295, .func), (296, .func), (297, .func), (299, .func), (300, .func), (301, .func), (302, .func), (303, .map)]
def tyT19 : List (Nat × Ty) := [(304, .slice), (305, (.st GOracleTable cGOracleTable 2)), (306, (.st GOracleTable cGOracleTable 2)), (307, .func), (309, .func), (310, (.st GReplicaKnot cGReplicaKnot 14)), (311, (.st GReplicaKnot cGReplicaKnot 14)), (312, .func), (313, .func), (314, .func), (315, .func), (316, .func), (317, .func), (318, .func), (319, (.st GApiSigned cGApiSigned 3))]
def tyT20 : List (Nat × Ty) := [(320, (.st GApiSigned cGApiSigned 3)), (321, .func), (322, .func), (323, .func), (324, .func), (325, .func), (326, .func), (328, .func), (329, .func), (330, .func), (331, .func), (332, .func), (333, .func), (334, .func), (335, .func)]
def tyT21 : List (Nat × Ty) := [(336, .func), (337, .func), (338, .func), (339, .func), (340, .func), (342, .func), (343, .func), (344, .func), (345, .func), (346, .func), (347, .func), (348, .func), (349, .func), (350, (.int .u32)), (351, (.st (List Int) ((fun l => l.map (fun (x : Int) => (.int .u32 x : Value)))) 0))]
def tyT22 : List (Nat × Ty) := [(352, .func), (353, (.st (List Int) ((fun l => l.map (fun (x : Int) => (.int .u8 x : Value)))) 0)), (354, .func), (355, .func), (357, .func), (358, .ptr), (359, (.st GStringsBuilder cGStringsBuilder 2)), (360, (.st GStringsBuilder cGStringsBuilder 2)), (361, .iface), (362, .iface), (364, .func), (366, .func), (367, (.st GCodeReader cGCodeReader 3))]
def tyT23 : List (Nat × Ty) := [(368, (.st GCodeReader cGCodeReader 3)), (369, .func), (370, .func), (371, .func), (372, .func), (374, .func), (376, .func), (377, .func), (378, .func), (379, (.st (List Int) ((fun l => l.map (fun (x : Int) => (.int .u8 x : Value)))) 0)), (380, .func), (381, .func), (382, .func), (383, (.st GTreeTwig cGTreeTwig 4))]
def tyT24 : List (Nat × Ty) := [(384, (.st GTreeTwig cGTreeTwig 4)), (385, .slice), (386, (.st GTreeTree cGTreeTree 3)), (387, (.st GTreeTree cGTreeTree 3)), (388, .func), (389, .ptr), (391, .func), (392, .func), (393, .func), (394, .func), (395, .func), (396, .func), (397, .func), (398, .func), (399, (.st GApiReceipt cGApiReceipt 3))]
def tyT25 : List (Nat × Ty) := [(400, (.st GApiReceipt cGApiReceipt 3)), (401, .func), (402, .func), (403, .func), (404, .func), (405, (.int .i64)), (407, .func), (408, .func), (409, .func), (410, .func), (411, .func), (412, .func), (413, (.int .u64)), (415, .func)]
def tyT26 : List (Nat × Ty) := [(416, .func), (417, .func), (418, (.st (List Int) ((fun l => l.map (fun (x : Int) => (.int .u32 x : Value)))) 0)), (419, .func), (420, .func), (422, .func), (424, .func), (425, .ptr), (426, .func), (427, .func), (428, .func), (430, .func), (431, .ptr)]
def tyT27 : List (Nat × Ty) := [(432, (.st GExecWork cGExecWork 2)), (433, (.st GExecWork cGExecWork 2)), (434, .func), (435, .func), (436, .func), (437, .func), (438, .func), (440, .func), (441, .func), (442, .ptr), (443, .func), (444, .func), (445, .func), (446, .func), (447, .func)]
def tyT28 : List (Nat × Ty) := [(448, .func), (449, .func), (450, .func), (451, .func), (452, (.int .u64)), (453, .func), (454, .func), (455, .func), (456, .ptr), (457, .func), (458, .func), (459, .ptr), (460, .func), (461, .func), (462, .func), (463, (.st (List Int) ((fun l => l.map (fun (x : Int) => (.int .u32 x : Value)))) 0))]
def tyT29 : List (Nat × Ty) := [(465, .func), (466, .func), (467, .func), (468, .func), (469, .func), (470, (.st GShaHash cGShaHash 0)), (471, (.st GShaHash cGShaHash 0)), (473, .func), (474, .func), (475, .func), (476, .ptr), (478, .func)]
def tyT30 : List (Nat × Ty) := [(480, .func), (481, .func), (482, .func), (483, .func), (484, .func), (485, (.st (List Int) ((fun l => l.map (fun (x : Int) => (.int .u8 x : Value)))) 0)), (486, .func), (487, .func), (488, .func), (489, .func), (490, .func)]
def tyT31 : List (Nat × Ty) := [(498, .func), (501, (.st GAbiType cGAbiType 11))]
def τ (t : TypeId) : Option Ty := match Nat.blt t 256 with | true => (match Nat.blt t 128 with | true => (match Nat.blt t 64 with | true => (match Nat.blt t 32 with | true => (match Nat.blt t 16 with | true => (lkT tyT0 t) | false => (lkT tyT1 t)) | false => (match Nat.blt t 48 with | true => (lkT tyT2 t) | false => (lkT tyT3 t))) | false => (match Nat.blt t 96 with | true => (match Nat.blt t 80 with | true => (lkT tyT4 t) | false => (lkT tyT5 t)) | false => (match Nat.blt t 112 with | true => (lkT tyT6 t) | false => (lkT tyT7 t)))) | false => (match Nat.blt t 192 with | true => (match Nat.blt t 160 with | true => (match Nat.blt t 144 with | true => (lkT tyT8 t) | false => (lkT tyT9 t)) | false => (match Nat.blt t 176 with | true => (lkT tyT10 t) | false => (lkT tyT11 t))) | false => (match Nat.blt t 224 with | true => (match Nat.blt t 208 with | true => (lkT tyT12 t) | false => (lkT tyT13 t)) | false => (match Nat.blt t 240 with | true => (lkT tyT14 t) | false => (lkT tyT15 t))))) | false => (match Nat.blt t 384 with | true => (match Nat.blt t 320 with | true => (match Nat.blt t 288 with | true => (match Nat.blt t 272 with | true => (lkT tyT16 t) | false => (lkT tyT17 t)) | false => (match Nat.blt t 304 with | true => (lkT tyT18 t) | false => (lkT tyT19 t))) | false => (match Nat.blt t 352 with | true => (match Nat.blt t 336 with | true => (lkT tyT20 t) | false => (lkT tyT21 t)) | false => (match Nat.blt t 368 with | true => (lkT tyT22 t) | false => (lkT tyT23 t)))) | false => (match Nat.blt t 448 with | true => (match Nat.blt t 416 with | true => (match Nat.blt t 400 with | true => (lkT tyT24 t) | false => (lkT tyT25 t)) | false => (match Nat.blt t 432 with | true => (lkT tyT26 t) | false => (lkT tyT27 t))) | false => (match Nat.blt t 480 with | true => (match Nat.blt t 464 with | true => (lkT tyT28 t) | false => (lkT tyT29 t)) | false => (match Nat.blt t 496 with | true => (lkT tyT30 t) | false => (lkT tyT31 t)))))
theorem lkT_mem : ∀ {l : List (Nat × Ty)} {t : Nat} {ty : Ty}, lkT l t = some ty → ∃ u, (u, ty) ∈ l
  | [], _, _, h => by cases h
  | p :: r, t, ty, h => by
    unfold lkT at h
    split at h
    · injection h with h; subst h; exact ⟨p.1, List.mem_cons_self ..⟩
    · obtain ⟨u, hu⟩ := lkT_mem h; exact ⟨u, List.mem_cons_of_mem _ hu⟩
abbrev AllOne (l : List Value) : Prop := ∀ v ∈ l, one v = true
theorem ao_nil : AllOne [] := fun v h => by cases h
theorem ao_cons {v : Value} {l : List Value} (h : one v = true) (k : AllOne l) : AllOne (v :: l) := fun x hx => by
  rcases List.mem_cons.1 hx with rfl | hx
  · exact h
  · exact k x hx
theorem ao_app {l m : List Value} (h : AllOne l) (k : AllOne m) : AllOne (l ++ m) := fun x hx => (List.mem_append.1 hx).elim (h x) (k x)
theorem ao_map {α : Type} {f : α → Value} {l : List α} (h : ∀ x, one (f x) = true) : AllOne (l.map f) := fun v hv => by
  obtain ⟨x, _, rfl⟩ := List.mem_map.1 hv
  exact h x
theorem ao_flat {α : Type} {f : α → List Value} {l : List α} (h : ∀ x, AllOne (f x)) : AllOne (l.map f).flatten := fun v hv => by
  obtain ⟨m, hm, hv⟩ := List.mem_flatten.1 hv
  obtain ⟨x, _, rfl⟩ := List.mem_map.1 hm
  exact h x v hv
theorem one_iface (f : Option (TypeId × Value)) : one (ifaceV f) = true := by
  cases f with
  | none => rfl
  | some f => obtain ⟨t, v⟩ := f; rfl
theorem tyOk0 : ∀ p ∈ tyT0, TyOk p.2 := by
  unfold tyT0
  repeat' (first | exact List.forall_mem_nil _ | (refine List.forall_mem_cons.2 ⟨?_, ?_⟩))
  all_goals first | exact trivial | (intro x; repeat' (first | exact ao_nil | refine ao_cons rfl ?_ | refine ao_cons (one_iface _) ?_ | refine ao_app ?_ ?_ | refine ao_map (fun _ => rfl) | refine ao_map (fun _ => one_iface _) | (refine ao_flat (fun _ => ?_))))
theorem tyOk1 : ∀ p ∈ tyT1, TyOk p.2 := by
  unfold tyT1
  repeat' (first | exact List.forall_mem_nil _ | (refine List.forall_mem_cons.2 ⟨?_, ?_⟩))
  all_goals first | exact trivial | (intro x; repeat' (first | exact ao_nil | refine ao_cons rfl ?_ | refine ao_cons (one_iface _) ?_ | refine ao_app ?_ ?_ | refine ao_map (fun _ => rfl) | refine ao_map (fun _ => one_iface _) | (refine ao_flat (fun _ => ?_))))
theorem tyOk2 : ∀ p ∈ tyT2, TyOk p.2 := by
  unfold tyT2
  repeat' (first | exact List.forall_mem_nil _ | (refine List.forall_mem_cons.2 ⟨?_, ?_⟩))
  all_goals first | exact trivial | (intro x; repeat' (first | exact ao_nil | refine ao_cons rfl ?_ | refine ao_cons (one_iface _) ?_ | refine ao_app ?_ ?_ | refine ao_map (fun _ => rfl) | refine ao_map (fun _ => one_iface _) | (refine ao_flat (fun _ => ?_))))
theorem tyOk3 : ∀ p ∈ tyT3, TyOk p.2 := by
  unfold tyT3
  repeat' (first | exact List.forall_mem_nil _ | (refine List.forall_mem_cons.2 ⟨?_, ?_⟩))
  all_goals first | exact trivial | (intro x; repeat' (first | exact ao_nil | refine ao_cons rfl ?_ | refine ao_cons (one_iface _) ?_ | refine ao_app ?_ ?_ | refine ao_map (fun _ => rfl) | refine ao_map (fun _ => one_iface _) | (refine ao_flat (fun _ => ?_))))
theorem tyOk4 : ∀ p ∈ tyT4, TyOk p.2 := by
  unfold tyT4
  repeat' (first | exact List.forall_mem_nil _ | (refine List.forall_mem_cons.2 ⟨?_, ?_⟩))
  all_goals first | exact trivial | (intro x; repeat' (first | exact ao_nil | refine ao_cons rfl ?_ | refine ao_cons (one_iface _) ?_ | refine ao_app ?_ ?_ | refine ao_map (fun _ => rfl) | refine ao_map (fun _ => one_iface _) | (refine ao_flat (fun _ => ?_))))
theorem tyOk5 : ∀ p ∈ tyT5, TyOk p.2 := by
  unfold tyT5
  repeat' (first | exact List.forall_mem_nil _ | (refine List.forall_mem_cons.2 ⟨?_, ?_⟩))
  all_goals first | exact trivial | (intro x; repeat' (first | exact ao_nil | refine ao_cons rfl ?_ | refine ao_cons (one_iface _) ?_ | refine ao_app ?_ ?_ | refine ao_map (fun _ => rfl) | refine ao_map (fun _ => one_iface _) | (refine ao_flat (fun _ => ?_))))
theorem tyOk6 : ∀ p ∈ tyT6, TyOk p.2 := by
  unfold tyT6
  repeat' (first | exact List.forall_mem_nil _ | (refine List.forall_mem_cons.2 ⟨?_, ?_⟩))
  all_goals first | exact trivial | (intro x; repeat' (first | exact ao_nil | refine ao_cons rfl ?_ | refine ao_cons (one_iface _) ?_ | refine ao_app ?_ ?_ | refine ao_map (fun _ => rfl) | refine ao_map (fun _ => one_iface _) | (refine ao_flat (fun _ => ?_))))
theorem tyOk7 : ∀ p ∈ tyT7, TyOk p.2 := by
  unfold tyT7
  repeat' (first | exact List.forall_mem_nil _ | (refine List.forall_mem_cons.2 ⟨?_, ?_⟩))
  all_goals first | exact trivial | (intro x; repeat' (first | exact ao_nil | refine ao_cons rfl ?_ | refine ao_cons (one_iface _) ?_ | refine ao_app ?_ ?_ | refine ao_map (fun _ => rfl) | refine ao_map (fun _ => one_iface _) | (refine ao_flat (fun _ => ?_))))
theorem tyOk8 : ∀ p ∈ tyT8, TyOk p.2 := by
  unfold tyT8
  repeat' (first | exact List.forall_mem_nil _ | (refine List.forall_mem_cons.2 ⟨?_, ?_⟩))
  all_goals first | exact trivial | (intro x; repeat' (first | exact ao_nil | refine ao_cons rfl ?_ | refine ao_cons (one_iface _) ?_ | refine ao_app ?_ ?_ | refine ao_map (fun _ => rfl) | refine ao_map (fun _ => one_iface _) | (refine ao_flat (fun _ => ?_))))
theorem tyOk9 : ∀ p ∈ tyT9, TyOk p.2 := by
  unfold tyT9
  repeat' (first | exact List.forall_mem_nil _ | (refine List.forall_mem_cons.2 ⟨?_, ?_⟩))
  all_goals first | exact trivial | (intro x; repeat' (first | exact ao_nil | refine ao_cons rfl ?_ | refine ao_cons (one_iface _) ?_ | refine ao_app ?_ ?_ | refine ao_map (fun _ => rfl) | refine ao_map (fun _ => one_iface _) | (refine ao_flat (fun _ => ?_))))
theorem tyOk10 : ∀ p ∈ tyT10, TyOk p.2 := by
  unfold tyT10
  repeat' (first | exact List.forall_mem_nil _ | (refine List.forall_mem_cons.2 ⟨?_, ?_⟩))
  all_goals first | exact trivial | (intro x; repeat' (first | exact ao_nil | refine ao_cons rfl ?_ | refine ao_cons (one_iface _) ?_ | refine ao_app ?_ ?_ | refine ao_map (fun _ => rfl) | refine ao_map (fun _ => one_iface _) | (refine ao_flat (fun _ => ?_))))
theorem tyOk11 : ∀ p ∈ tyT11, TyOk p.2 := by
  unfold tyT11
  repeat' (first | exact List.forall_mem_nil _ | (refine List.forall_mem_cons.2 ⟨?_, ?_⟩))
  all_goals first | exact trivial | (intro x; repeat' (first | exact ao_nil | refine ao_cons rfl ?_ | refine ao_cons (one_iface _) ?_ | refine ao_app ?_ ?_ | refine ao_map (fun _ => rfl) | refine ao_map (fun _ => one_iface _) | (refine ao_flat (fun _ => ?_))))
theorem tyOk12 : ∀ p ∈ tyT12, TyOk p.2 := by
  unfold tyT12
  repeat' (first | exact List.forall_mem_nil _ | (refine List.forall_mem_cons.2 ⟨?_, ?_⟩))
  all_goals first | exact trivial | (intro x; repeat' (first | exact ao_nil | refine ao_cons rfl ?_ | refine ao_cons (one_iface _) ?_ | refine ao_app ?_ ?_ | refine ao_map (fun _ => rfl) | refine ao_map (fun _ => one_iface _) | (refine ao_flat (fun _ => ?_))))
theorem tyOk13 : ∀ p ∈ tyT13, TyOk p.2 := by
  unfold tyT13
  repeat' (first | exact List.forall_mem_nil _ | (refine List.forall_mem_cons.2 ⟨?_, ?_⟩))
  all_goals first | exact trivial | (intro x; repeat' (first | exact ao_nil | refine ao_cons rfl ?_ | refine ao_cons (one_iface _) ?_ | refine ao_app ?_ ?_ | refine ao_map (fun _ => rfl) | refine ao_map (fun _ => one_iface _) | (refine ao_flat (fun _ => ?_))))
theorem tyOk14 : ∀ p ∈ tyT14, TyOk p.2 := by
  unfold tyT14
  repeat' (first | exact List.forall_mem_nil _ | (refine List.forall_mem_cons.2 ⟨?_, ?_⟩))
  all_goals first | exact trivial | (intro x; repeat' (first | exact ao_nil | refine ao_cons rfl ?_ | refine ao_cons (one_iface _) ?_ | refine ao_app ?_ ?_ | refine ao_map (fun _ => rfl) | refine ao_map (fun _ => one_iface _) | (refine ao_flat (fun _ => ?_))))
theorem tyOk15 : ∀ p ∈ tyT15, TyOk p.2 := by
  unfold tyT15
  repeat' (first | exact List.forall_mem_nil _ | (refine List.forall_mem_cons.2 ⟨?_, ?_⟩))
  all_goals first | exact trivial | (intro x; repeat' (first | exact ao_nil | refine ao_cons rfl ?_ | refine ao_cons (one_iface _) ?_ | refine ao_app ?_ ?_ | refine ao_map (fun _ => rfl) | refine ao_map (fun _ => one_iface _) | (refine ao_flat (fun _ => ?_))))
theorem tyOk16 : ∀ p ∈ tyT16, TyOk p.2 := by
  unfold tyT16
  repeat' (first | exact List.forall_mem_nil _ | (refine List.forall_mem_cons.2 ⟨?_, ?_⟩))
  all_goals first | exact trivial | (intro x; repeat' (first | exact ao_nil | refine ao_cons rfl ?_ | refine ao_cons (one_iface _) ?_ | refine ao_app ?_ ?_ | refine ao_map (fun _ => rfl) | refine ao_map (fun _ => one_iface _) | (refine ao_flat (fun _ => ?_))))
theorem tyOk17 : ∀ p ∈ tyT17, TyOk p.2 := by
  unfold tyT17
  repeat' (first | exact List.forall_mem_nil _ | (refine List.forall_mem_cons.2 ⟨?_, ?_⟩))
  all_goals first | exact trivial | (intro x; repeat' (first | exact ao_nil | refine ao_cons rfl ?_ | refine ao_cons (one_iface _) ?_ | refine ao_app ?_ ?_ | refine ao_map (fun _ => rfl) | refine ao_map (fun _ => one_iface _) | (refine ao_flat (fun _ => ?_))))
theorem tyOk18 : ∀ p ∈ tyT18, TyOk p.2 := by
  unfold tyT18
  repeat' (first | exact List.forall_mem_nil _ | (refine List.forall_mem_cons.2 ⟨?_, ?_⟩))
  all_goals first | exact trivial | (intro x; repeat' (first | exact ao_nil | refine ao_cons rfl ?_ | refine ao_cons (one_iface _) ?_ | refine ao_app ?_ ?_ | refine ao_map (fun _ => rfl) | refine ao_map (fun _ => one_iface _) | (refine ao_flat (fun _ => ?_))))
theorem tyOk19 : ∀ p ∈ tyT19, TyOk p.2 := by
  unfold tyT19
  repeat' (first | exact List.forall_mem_nil _ | (refine List.forall_mem_cons.2 ⟨?_, ?_⟩))
  all_goals first | exact trivial | (intro x; repeat' (first | exact ao_nil | refine ao_cons rfl ?_ | refine ao_cons (one_iface _) ?_ | refine ao_app ?_ ?_ | refine ao_map (fun _ => rfl) | refine ao_map (fun _ => one_iface _) | (refine ao_flat (fun _ => ?_))))
theorem tyOk20 : ∀ p ∈ tyT20, TyOk p.2 := by
  unfold tyT20
  repeat' (first | exact List.forall_mem_nil _ | (refine List.forall_mem_cons.2 ⟨?_, ?_⟩))
  all_goals first | exact trivial | (intro x; repeat' (first | exact ao_nil | refine ao_cons rfl ?_ | refine ao_cons (one_iface _) ?_ | refine ao_app ?_ ?_ | refine ao_map (fun _ => rfl) | refine ao_map (fun _ => one_iface _) | (refine ao_flat (fun _ => ?_))))
theorem tyOk21 : ∀ p ∈ tyT21, TyOk p.2 := by
  unfold tyT21
  repeat' (first | exact List.forall_mem_nil _ | (refine List.forall_mem_cons.2 ⟨?_, ?_⟩))
  all_goals first | exact trivial | (intro x; repeat' (first | exact ao_nil | refine ao_cons rfl ?_ | refine ao_cons (one_iface _) ?_ | refine ao_app ?_ ?_ | refine ao_map (fun _ => rfl) | refine ao_map (fun _ => one_iface _) | (refine ao_flat (fun _ => ?_))))
theorem tyOk22 : ∀ p ∈ tyT22, TyOk p.2 := by
  unfold tyT22
  repeat' (first | exact List.forall_mem_nil _ | (refine List.forall_mem_cons.2 ⟨?_, ?_⟩))
  all_goals first | exact trivial | (intro x; repeat' (first | exact ao_nil | refine ao_cons rfl ?_ | refine ao_cons (one_iface _) ?_ | refine ao_app ?_ ?_ | refine ao_map (fun _ => rfl) | refine ao_map (fun _ => one_iface _) | (refine ao_flat (fun _ => ?_))))
theorem tyOk23 : ∀ p ∈ tyT23, TyOk p.2 := by
  unfold tyT23
  repeat' (first | exact List.forall_mem_nil _ | (refine List.forall_mem_cons.2 ⟨?_, ?_⟩))
  all_goals first | exact trivial | (intro x; repeat' (first | exact ao_nil | refine ao_cons rfl ?_ | refine ao_cons (one_iface _) ?_ | refine ao_app ?_ ?_ | refine ao_map (fun _ => rfl) | refine ao_map (fun _ => one_iface _) | (refine ao_flat (fun _ => ?_))))
theorem tyOk24 : ∀ p ∈ tyT24, TyOk p.2 := by
  unfold tyT24
  repeat' (first | exact List.forall_mem_nil _ | (refine List.forall_mem_cons.2 ⟨?_, ?_⟩))
  all_goals first | exact trivial | (intro x; repeat' (first | exact ao_nil | refine ao_cons rfl ?_ | refine ao_cons (one_iface _) ?_ | refine ao_app ?_ ?_ | refine ao_map (fun _ => rfl) | refine ao_map (fun _ => one_iface _) | (refine ao_flat (fun _ => ?_))))
theorem tyOk25 : ∀ p ∈ tyT25, TyOk p.2 := by
  unfold tyT25
  repeat' (first | exact List.forall_mem_nil _ | (refine List.forall_mem_cons.2 ⟨?_, ?_⟩))
  all_goals first | exact trivial | (intro x; repeat' (first | exact ao_nil | refine ao_cons rfl ?_ | refine ao_cons (one_iface _) ?_ | refine ao_app ?_ ?_ | refine ao_map (fun _ => rfl) | refine ao_map (fun _ => one_iface _) | (refine ao_flat (fun _ => ?_))))
theorem tyOk26 : ∀ p ∈ tyT26, TyOk p.2 := by
  unfold tyT26
  repeat' (first | exact List.forall_mem_nil _ | (refine List.forall_mem_cons.2 ⟨?_, ?_⟩))
  all_goals first | exact trivial | (intro x; repeat' (first | exact ao_nil | refine ao_cons rfl ?_ | refine ao_cons (one_iface _) ?_ | refine ao_app ?_ ?_ | refine ao_map (fun _ => rfl) | refine ao_map (fun _ => one_iface _) | (refine ao_flat (fun _ => ?_))))
theorem tyOk27 : ∀ p ∈ tyT27, TyOk p.2 := by
  unfold tyT27
  repeat' (first | exact List.forall_mem_nil _ | (refine List.forall_mem_cons.2 ⟨?_, ?_⟩))
  all_goals first | exact trivial | (intro x; repeat' (first | exact ao_nil | refine ao_cons rfl ?_ | refine ao_cons (one_iface _) ?_ | refine ao_app ?_ ?_ | refine ao_map (fun _ => rfl) | refine ao_map (fun _ => one_iface _) | (refine ao_flat (fun _ => ?_))))
theorem tyOk28 : ∀ p ∈ tyT28, TyOk p.2 := by
  unfold tyT28
  repeat' (first | exact List.forall_mem_nil _ | (refine List.forall_mem_cons.2 ⟨?_, ?_⟩))
  all_goals first | exact trivial | (intro x; repeat' (first | exact ao_nil | refine ao_cons rfl ?_ | refine ao_cons (one_iface _) ?_ | refine ao_app ?_ ?_ | refine ao_map (fun _ => rfl) | refine ao_map (fun _ => one_iface _) | (refine ao_flat (fun _ => ?_))))
theorem tyOk29 : ∀ p ∈ tyT29, TyOk p.2 := by
  unfold tyT29
  repeat' (first | exact List.forall_mem_nil _ | (refine List.forall_mem_cons.2 ⟨?_, ?_⟩))
  all_goals first | exact trivial | (intro x; repeat' (first | exact ao_nil | refine ao_cons rfl ?_ | refine ao_cons (one_iface _) ?_ | refine ao_app ?_ ?_ | refine ao_map (fun _ => rfl) | refine ao_map (fun _ => one_iface _) | (refine ao_flat (fun _ => ?_))))
theorem tyOk30 : ∀ p ∈ tyT30, TyOk p.2 := by
  unfold tyT30
  repeat' (first | exact List.forall_mem_nil _ | (refine List.forall_mem_cons.2 ⟨?_, ?_⟩))
  all_goals first | exact trivial | (intro x; repeat' (first | exact ao_nil | refine ao_cons rfl ?_ | refine ao_cons (one_iface _) ?_ | refine ao_app ?_ ?_ | refine ao_map (fun _ => rfl) | refine ao_map (fun _ => one_iface _) | (refine ao_flat (fun _ => ?_))))
theorem tyOk31 : ∀ p ∈ tyT31, TyOk p.2 := by
  unfold tyT31
  repeat' (first | exact List.forall_mem_nil _ | (refine List.forall_mem_cons.2 ⟨?_, ?_⟩))
  all_goals first | exact trivial | (intro x; repeat' (first | exact ao_nil | refine ao_cons rfl ?_ | refine ao_cons (one_iface _) ?_ | refine ao_app ?_ ?_ | refine ao_map (fun _ => rfl) | refine ao_map (fun _ => one_iface _) | (refine ao_flat (fun _ => ?_))))
theorem tok : TOk τ := by
  intro t ty h
  unfold τ at h
  repeat' (first | (split at h) | (obtain ⟨u, hu⟩ := lkT_mem h; first | exact tyOk0 _ hu | exact tyOk1 _ hu | exact tyOk2 _ hu | exact tyOk3 _ hu | exact tyOk4 _ hu | exact tyOk5 _ hu | exact tyOk6 _ hu | exact tyOk7 _ hu | exact tyOk8 _ hu | exact tyOk9 _ hu | exact tyOk10 _ hu | exact tyOk11 _ hu | exact tyOk12 _ hu | exact tyOk13 _ hu | exact tyOk14 _ hu | exact tyOk15 _ hu | exact tyOk16 _ hu | exact tyOk17 _ hu | exact tyOk18 _ hu | exact tyOk19 _ hu | exact tyOk20 _ hu | exact tyOk21 _ hu | exact tyOk22 _ hu | exact tyOk23 _ hu | exact tyOk24 _ hu | exact tyOk25 _ hu | exact tyOk26 _ hu | exact tyOk27 _ hu | exact tyOk28 _ hu | exact tyOk29 _ hu | exact tyOk30 _ hu | exact tyOk31 _ hu))
end Go.Vw
